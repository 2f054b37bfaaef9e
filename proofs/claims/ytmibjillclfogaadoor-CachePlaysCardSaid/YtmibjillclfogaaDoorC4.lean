/-
  Pairs: their equality, as keys, and those that are found and taken out of a row.
-/
import Derived.Test.YtmibjillclfogaaDoorC3
import Derived.Test.YtmibjillclfogaaDoorOwnO
namespace Go.Proofs.YtmibjillclfogaaDoor
open Go Go.RowKit Go.Proofs.Bw
set_option linter.unusedVariables false
set_option linter.unusedSimpArgs false

theorem str_inj (a b : List UInt8) : (⟨a.toArray⟩ : ByteArray) = ⟨b.toArray⟩ ↔ a = b := by
  constructor
  · intro h; injection h with h; exact Array.mk.inj h
  · intro h; rw [h]
theorem toL (a : List UInt8) : (⟨a.toArray⟩ : ByteArray).toList = a := by rw [ByteArray.toList_eq]
theorem eqP_in (a b : SP) (w : World) : (Op.equalIn 10000 55 (.agg (prC a).toArray) (.agg (prC b).toArray)).run Tryd.prog w = .ok (decide (a = b)) w := by
  obtain ⟨a0, a1⟩ := a
  obtain ⟨b0, b1⟩ := b
  have e3 : ∀ (w : World) (x y : List UInt8), (Op.equalIn 9999 9 (encStr x) (encStr y)).run Tryd.prog w = .ok (decide (x = y)) w := fun w x y => by
    rw [run_equalIn_string w 9998 9 _ _ Tryd.underlying9, toL, toL]
    congr 1
    by_cases h : x = y <;> simp [h]
  rw [show (10000 : Nat) = 9999 + 1 from rfl, Op.equalIn]
  simp only [Sem.run_bind, run_underlying Tryd.underlying55, Result.andThen_ok, Tryd.sizeOf9 w, Std.Legacy.Range.forIn_eq_forIn_range', Std.Legacy.Range.size]
  by_cases h0 : a0 = b0 <;> by_cases h1 : a1 = b1 <;>
      simp [List.range', List.forIn_cons, part, Tryd.isAgg9 w, prC, e3, h0, h1]
theorem keyP : KeyOk Tryd.prog 55 (fun p : SP => Value.agg (prC p).toArray) where
  check b k w := by
    have hs : ∀ (x : List UInt8) (w : World), (Instr.checkKey b 9999 9 (encStr x)).run Tryd.prog w = .ok () w := fun x w => by
      unfold Instr.checkKey
      simp [run_underlying Tryd.underlying9]
    rw [show (10000 : Nat) = 9999 + 1 from rfl, Instr.checkKey]
    simp only [Sem.run_bind, run_underlying Tryd.underlying55, Result.andThen_ok, Tryd.sizeOf9 w, Std.Legacy.Range.forIn_eq_forIn_range', Std.Legacy.Range.size]
    simp [List.range', List.forIn_cons, part, Tryd.isAgg9 w, Tryd.sizeOf9 w, prC, hs]
  find k ents es w h := by
    have hnow : ∀ (es : List MapEntry) (ents : List (SP × Value)) (i : Nat), MEs (fun p : SP => Value.agg (prC p).toArray) ents es → es ≠ [] → Instr.findNow (.array 2 9) (.agg (prC k).toArray) es i = none := by
      intro es ents i h hne
      cases es with
      | nil => exact absurd rfl hne
      | cons e r => unfold Instr.findNow; simp [Instr.sameNow]
    unfold Instr.findKey
    cases es with
    | nil =>
      cases ents with
      | nil => simp [run_underlying Tryd.underlying55, Instr.findNow, mfind]
      | cons p r => simp [MEs] at h
    | cons e r =>
      have hf := findAsking_run (P := Tryd.prog) (kt := 55) (fun a b w => eqP_in a b w) k w (e :: r) ents 0 h
      simp [run_underlying Tryd.underlying55, hnow (e :: r) ents 0 h (by simp), hf]
  bits k := by
    simp [Instr.sameBits, prC, ba_beq]
section
variable {e : Env} {w : World} {K : Value → World → Prop} {d : Option Tmp} {t : TypeId} {pos : String} {af : Array Edge} {g : Option (Nat × Bool)} {x y : Operand} {yt : TypeId} {a b : SP}
theorem OpT.eqlP (hx : evalO e x = some (.agg (prC a).toArray)) (hy : evalO e y = some (.agg (prC b).toArray)) (h : K (.bool (decide (a = b))) w) : Bw.OpT Tryd.prog e w ⟨d, .binOp .eql 55 x y yt, t, pos, af, g⟩ K :=
  Bw.OpT.value (fun ρ hρ => by simp [execOp, hρ x _ hx, hρ y _ hy, run_eqGuard_agg w _ _ _ _ _ _ Tryd.eqGuardType55, run_eql_struct, eqP_in]) h
end
theorem Put1_runs (q p : SP) (g : Nat) (w : World) (b : Box w g (prC p)) :
    Runs Tryd.prog 23 #[.agg (prC q).toArray, .pointer (some ⟨g, 0, none⟩)] w fun v w' => v = .bool (decide (q = p)) ∧ Ext w w' := by
  have hh := Holds.one (g := g) (cs := [.v (encStr p.1), .v (encStr p.2)]) b rfl
  refine Runs.of_vc (ρ := [g]) cx_ok [0, 1, 2, 3] [.a [.v (encStr q.1), .v (encStr q.2)], .p 0 0] Tryd.func23 rfl rfl rfl hh ?_
  intro g1 w1 e1 x1 z1 hh1
  refine OpT.eqlP (a := q) (b := p) rfl rfl ?_
  refine Lands.v hh1 ?_
  exact ⟨rfl, x1⟩
def pR (l : List SP) : List (List Value) := l.map prC
theorem pR_get {l : List SP} {i : Nat} (h : i < l.length) : (pR l)[i]? = some (prC l[i]) := by simp [pR, h]
theorem pR_length (l : List SP) : (pR l).length = l.length := by simp [pR]
/-- the place of one -/
def pix (p : SP) : List SP → Nat → Int
  | [], _ => -1
  | q :: r, i => if q = p then i else pix p r (i + 1)
theorem pix_no (p : SP) : ∀ (l : List SP) (i : Nat), p ∉ l → pix p l i = -1
  | [], _, _ => rfl
  | q :: r, i, h => by
    simp only [List.mem_cons, not_or] at h
    rw [pix, if_neg (fun e => h.1 e.symm), pix_no p r (i + 1) h.2]
theorem pix_at (p : SP) : ∀ (l : List SP) (i k : Nat), (h : k < l.length) → l[k] = p → (∀ j (hj : j < k), l[j]'(by omega) ≠ p) → pix p l i = ((i + k : Nat) : Int)
  | q :: r, i, 0, h, he, _ => by
    simp only [List.getElem_cons_zero] at he
    rw [pix, if_pos he]; simp
  | q :: r, i, k + 1, h, he, hn => by
    have h0 := hn 0 (by omega)
    simp only [List.getElem_cons_zero] at h0
    simp only [List.length_cons] at h
    rw [pix, if_neg h0, pix_at p r (i + 1) k (by omega) (by simpa using he) (fun j hj => by have := hn (j + 1) (by omega); simpa using this)]
    omega
theorem Index_runs {R : Nat → Prop} (A : Option Addr) (c : Nat) (l : List SP) (p : SP) (g : Nat) (w : World) (hl : Rd w R 2 A (pR l)) (b : Box w g (prC p)) (hsz : l.length ≤ 1000000) :
    Runs Tryd.prog 30 #[.slice A l.length c, .func (.func 23) #[] #[.pointer (some ⟨g, 0, none⟩)]] w fun v w' => v = .int .i64 (pix p l 0) ∧ Ext w w' := by
  refine Runs.of_vc (ρ := []) cx_ok [0, 1, 4, 5, 7, 8, 9, 16] [.v (.slice A l.length c), .f 23 [] [.v _]] Tryd.func30 rfl rfl rfl (Holds.nil w) ?_
  refine vLoop_mk (σ := Nat) (fun q => [(0, .v (.slice A l.length c)), (1, .f 23 [] [.v (.pointer (some ⟨g, 0, none⟩))]), (7, .v (.int .i64 l.length)), (8, .v (.int .i64 q))]) (fun _ => []) (fun q w' => Ext w w' ∧ q ≤ l.length ∧ ∀ j (hj : j < q) (hjl : j < l.length), l[j] ≠ p) (fun q => l.length - q) 0 (fun _ => ⟨rfl, rfl⟩)
    ⟨⟨rfl, rfl, rfl, rfl, trivial⟩, trivial, Ext.refl _, Nat.zero_le _, fun j hj => by omega⟩ ?_
  rintro i w1 hh ⟨x1, hi, hn⟩
  refine And.intro (fun h => ?_) (fun h => ?_)
  · have hlt := of_decide_eq_true h
    have hil : i < l.length := by omega
    obtain ⟨a1, ha1, _, hrow⟩ := (hl.ext x1).at (pR_get hil)
    refine OpT.indexAddr Tryd.underlying51 Tryd.sizeOf55 rfl rfl ha1 (by omega) ?_
    refine Lands.v hh ?_
    refine OpT.loadA (cs := prC l[i]) Tryd.isAgg55 Tryd.sizeOf55 rfl hrow ?_
    refine Lands.v hh ?_
    refine vcS (Put1_runs l[i] p g _ (b.ext x1)) hh fun w2 x2 hh2 => ?_
    refine And.intro (fun h2 => ?_) (fun h2 => ?_)
    · have he := of_decide_eq_true h2
      rw [pix_at p l 0 i hil he (fun j hj => hn j hj (by omega))]
      exact ⟨by simp only [Nat.zero_add]; rfl, x1.trans x2⟩
    · have he := of_decide_eq_false h2
      refine vsd (by simp only [inKind]; omega) ?_
      exact Exists.intro (i + 1) ⟨by omega, ⟨rfl, rfl, rfl, rfl, trivial⟩, trivial, x1.trans x2, hil, fun j hj hjl => by
        by_cases hji : j = i
        · subst hji; exact he
        · exact hn j (by omega) hjl⟩
  · have hge := of_decide_eq_false h
    have hil : i = l.length := by omega
    subst hil
    rw [pix_no p l 0 (fun hm => by
      obtain ⟨j, hj, e⟩ := List.mem_iff_getElem.1 hm
      exact hn j hj hj e)]
    exact ⟨rfl, x1⟩
end Go.Proofs.YtmibjillclfogaaDoor

