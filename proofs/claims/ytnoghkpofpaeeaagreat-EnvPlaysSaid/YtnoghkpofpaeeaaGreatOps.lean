/-
  What each kind of operation does, over a list of what slots hold.
-/
import Derived.Test.YtnoghkpofpaeeaaGreatCore
import Derived.Lib.ConvBytes
namespace Go.Proofs.Bw
open Go Go.RowKit

/-- Cells that read so. -/
def RowAt (w : World) (p : Addr) (cs : List Value) : Prop := ∀ j u, cs[j]? = some u → w.cell? (p.add j) = some u

theorem block_add (a : Addr) (n : Nat) : (a.add n).block = a.block := by unfold Addr.add; split <;> rfl
theorem add_add (a : Addr) (i j : Nat) : (a.add i).add j = a.add (i + j) := by
  unfold Addr.add
  by_cases hi : i = 0 <;> by_cases hj : j = 0 <;> simp [hi, hj, Nat.add_assoc]
theorem cell_mod {S : Nat → Prop} {w w' : World} (hm : Mod S w w') {p : Addr} {u : Value} (h : w.cell? p = some u) (hS : ¬ S p.block) : w'.cell? p = some u :=
  (World.cell?_of_block (hm.block p.block (World.block_lt_of_cell? w p h) hS)).trans h
theorem RowAt.mod {S : Nat → Prop} {w w' : World} {p : Addr} {cs : List Value} (h : RowAt w p cs) (hm : Mod S w w') (hS : ¬ S p.block) : RowAt w' p cs :=
  fun j u hu => cell_mod hm (h j u hu) (by rw [block_add]; exact hS)
theorem RowAt.cell {w : World} {p : Addr} {cs : List Value} (h : RowAt w p cs) (j : Nat) {u : Value} (hu : cs[j]? = some u) : w.cell? (p.add j) = some u := h j u hu
theorem RowAt.ext {w w' : World} {p : Addr} {cs : List Value} (h : RowAt w p cs) (hm : Ext w w') : RowAt w' p cs := h.mod hm id
theorem RowAt.upd {w w' : World} {g : Nat} {p : Addr} {cs : List Value} (h : RowAt w p cs) (hm : Upd g w w') (hg : p.block ≠ g) : RowAt w' p cs := h.mod hm hg
theorem Box.rowAt {w : World} {g : Nat} {vs : List Value} (h : Box w g vs) (i : Nat) : RowAt w ⟨g, i, none⟩ (vs.drop i) := by
  intro j u hu
  rw [List.getElem?_drop] at hu
  rw [Addr.add_lit, h.cell, hu]
theorem RowAt.take {w : World} {p : Addr} {cs : List Value} (h : RowAt w p cs) (n : Nat) : RowAt w p (cs.take n) := by
  intro j u hu
  refine h j u ?_
  rw [List.getElem?_take] at hu
  split at hu
  · exact hu
  · cases hu

abbrev AggIs (P : Program) (t : TypeId) (b : Bool) : Prop := ∀ w : World, (isAgg t).run P w = .ok b w
abbrev SizeIs (P : Program) (t : TypeId) (n : Nat) : Prop := ∀ w : World, (sizeOf t).run P w = .ok n w
abbrev ZeroIs (P : Program) (t : TypeId) (v : Value) : Prop := ∀ w : World, (zeroValue t).run P w = .ok v w
abbrev EntersAt (P : Program) (f : FuncId) : Prop := ∀ (args : Array Value) (w : World), (callFunc f args).run P w = .ok (.enter f args) w

section
variable {P : Program} {e : Env} {w : World} {K : Value → World → Prop} {d : Option Tmp} {t : TypeId} {pos : String} {af : Array Edge} {g : Option (Nat × Bool)}

theorem OpT.move {x : Operand} {v : Value} (hx : evalO e x = some v) (h : K v w) : OpT P e w ⟨d, .move x, t, pos, af, g⟩ K :=
  OpT.value (fun ρ hρ => by simp [execOp, hρ x v hx]) h
theorem OpT.assign {x : Operand} {v : Value} (hx : evalO e x = some v) (h : K v w) : OpT P e w ⟨d, .assign x, t, pos, af, g⟩ K :=
  OpT.value (fun ρ hρ => by simp [execOp, hρ x v hx]) h
theorem OpT.pick {c x y : Operand} {b : Bool} {u v : Value} (hc : evalO e c = some (.bool b)) (hx : b = true → evalO e x = some u) (hy : b = false → evalO e y = some v)
    (h : K (bif b then u else v) w) : OpT P e w ⟨d, .pick c x y, t, pos, af, g⟩ K := by
  refine OpT.value (v := bif b then u else v) (fun ρ hρ => ?_) h
  cases b with
  | true => simp [execOp, hρ c _ hc, hρ x _ (hx rfl), asBool]
  | false => simp [execOp, hρ c _ hc, hρ y _ (hy rfl), asBool]
theorem OpT.pickT {c x y : Operand} {b : Bool} {u : Value} (hc : evalO e c = some (.bool b)) (hb : b = true) (hx : evalO e x = some u) (h : K u w) : OpT P e w ⟨d, .pick c x y, t, pos, af, g⟩ K := by
  subst hb; exact OpT.value (fun ρ hρ => by simp [execOp, hρ c _ hc, hρ x _ hx, asBool]) h
theorem OpT.pickF {c x y : Operand} {b : Bool} {u : Value} (hc : evalO e c = some (.bool b)) (hb : b = false) (hy : evalO e y = some u) (h : K u w) : OpT P e w ⟨d, .pick c x y, t, pos, af, g⟩ K := by
  subst hb; exact OpT.value (fun ρ hρ => by simp [execOp, hρ c _ hc, hρ y _ hy, asBool]) h

/-! integers -/
section ints
variable {x y : Operand} {k : IntKind} {a b : Int} {xt yt : TypeId}
theorem OpT.addW (hx : evalO e x = some (.int k a)) (hy : evalO e y = some (.int k b)) (h : K (.int k (k.wrap (a + b))) w) : OpT P e w ⟨d, .binOp .add xt x y yt, t, pos, af, g⟩ K :=
  OpT.value (fun ρ hρ => by simp [execOp, hρ x _ hx, hρ y _ hy, go_sem]) h
theorem OpT.subW (hx : evalO e x = some (.int k a)) (hy : evalO e y = some (.int k b)) (h : K (.int k (k.wrap (a - b))) w) : OpT P e w ⟨d, .binOp .sub xt x y yt, t, pos, af, g⟩ K :=
  OpT.value (fun ρ hρ => by simp [execOp, hρ x _ hx, hρ y _ hy, go_sem]) h
theorem OpT.mulW (hx : evalO e x = some (.int k a)) (hy : evalO e y = some (.int k b)) (h : K (.int k (k.wrap (a * b))) w) : OpT P e w ⟨d, .binOp .mul xt x y yt, t, pos, af, g⟩ K :=
  OpT.value (fun ρ hρ => by simp [execOp, hρ x _ hx, hρ y _ hy, go_sem]) h

theorem wrap_i64 {n : Int} (h : -9223372036854775808 ≤ n ∧ n ≤ 9223372036854775807) : IntKind.i64.wrap n = n := by
  rw [IntKind.wrap_i64]; omega
theorem wrap_u64 {n : Int} (h : 0 ≤ n ∧ n ≤ 18446744073709551615) : IntKind.u64.wrap n = n := by
  rw [IntKind.wrap_u64]; omega
theorem wrap_u8 {n : Int} (h : 0 ≤ n ∧ n ≤ 255) : IntKind.u8.wrap n = n := by
  rw [IntKind.wrap_u8]; omega

theorem OpT.add (hx : evalO e x = some (.int .i64 a)) (hy : evalO e y = some (.int .i64 b)) (hb : -9223372036854775808 ≤ a + b ∧ a + b ≤ 9223372036854775807)
    (h : K (.int .i64 (a + b)) w) : OpT P e w ⟨d, .binOp .add xt x y yt, t, pos, af, g⟩ K := OpT.addW hx hy (by rw [wrap_i64 hb]; exact h)
theorem OpT.sub (hx : evalO e x = some (.int .i64 a)) (hy : evalO e y = some (.int .i64 b)) (hb : -9223372036854775808 ≤ a - b ∧ a - b ≤ 9223372036854775807)
    (h : K (.int .i64 (a - b)) w) : OpT P e w ⟨d, .binOp .sub xt x y yt, t, pos, af, g⟩ K := OpT.subW hx hy (by rw [wrap_i64 hb]; exact h)
theorem OpT.mul (hx : evalO e x = some (.int .i64 a)) (hy : evalO e y = some (.int .i64 b)) (hb : -9223372036854775808 ≤ a * b ∧ a * b ≤ 9223372036854775807)
    (h : K (.int .i64 (a * b)) w) : OpT P e w ⟨d, .binOp .mul xt x y yt, t, pos, af, g⟩ K := OpT.mulW hx hy (by rw [wrap_i64 hb]; exact h)

theorem OpT.rem (hx : evalO e x = some (.int k a)) (hy : evalO e y = some (.int k b)) (hb : b ≠ 0) (h : K (.int k (a.tmod b)) w) : OpT P e w ⟨d, .binOp .rem xt x y yt, t, pos, af, g⟩ K :=
  OpT.value (fun ρ hρ => by simp [execOp, hρ x _ hx, hρ y _ hy, go_sem, Op.intDiv, hb]) h
theorem OpT.lss (hx : evalO e x = some (.int k a)) (hy : evalO e y = some (.int k b)) (h : K (.bool (decide (a < b))) w) : OpT P e w ⟨d, .binOp .lss xt x y yt, t, pos, af, g⟩ K :=
  OpT.value (fun ρ hρ => by simp [execOp, hρ x _ hx, hρ y _ hy, go_sem]) h
theorem OpT.leq (hx : evalO e x = some (.int k a)) (hy : evalO e y = some (.int k b)) (h : K (.bool (decide (a ≤ b))) w) : OpT P e w ⟨d, .binOp .leq xt x y yt, t, pos, af, g⟩ K :=
  OpT.value (fun ρ hρ => by simp [execOp, hρ x _ hx, hρ y _ hy, go_sem]) h
theorem OpT.gtr (hx : evalO e x = some (.int k a)) (hy : evalO e y = some (.int k b)) (h : K (.bool (decide (b < a))) w) : OpT P e w ⟨d, .binOp .gtr xt x y yt, t, pos, af, g⟩ K :=
  OpT.value (fun ρ hρ => by simp [execOp, hρ x _ hx, hρ y _ hy, go_sem]) h
theorem OpT.geq (hx : evalO e x = some (.int k a)) (hy : evalO e y = some (.int k b)) (h : K (.bool (decide (b ≤ a))) w) : OpT P e w ⟨d, .binOp .geq xt x y yt, t, pos, af, g⟩ K :=
  OpT.value (fun ρ hρ => by simp [execOp, hρ x _ hx, hρ y _ hy, go_sem]) h
theorem OpT.eqlI (hx : evalO e x = some (.int k a)) (hy : evalO e y = some (.int k b)) (h : K (.bool (decide (a = b))) w) : OpT P e w ⟨d, .binOp .eql xt x y yt, t, pos, af, g⟩ K :=
  OpT.value (v := .bool (decide (a = b))) (fun ρ hρ => by simp [execOp, hρ x _ hx, hρ y _ hy, go_sem]; first | done | rfl) h
theorem OpT.neqI (hx : evalO e x = some (.int k a)) (hy : evalO e y = some (.int k b)) (h : K (.bool (!decide (a = b))) w) : OpT P e w ⟨d, .binOp .neq xt x y yt, t, pos, af, g⟩ K :=
  OpT.value (v := .bool (!decide (a = b))) (fun ρ hρ => by simp [execOp, hρ x _ hx, hρ y _ hy, go_sem]; first | done | rfl) h
theorem OpT.convI {s u : TypeId} {kd : IntKind} (hs : (P.underlying s).isSome = true) (hd : P.underlying u = some (.int kd)) (hx : evalO e x = some (.int k a)) (h : K (.int kd (kd.wrap a)) w) :
    OpT P e w ⟨d, .convert s u x, t, pos, af, g⟩ K := by
  obtain ⟨ds, hs⟩ := Option.isSome_iff_exists.mp hs
  refine OpT.value (v := .int kd (kd.wrap a)) (fun ρ hρ => ?_) h
  simp only [execOp, hρ x _ hx, convert, Sem.run_bind, run_underlying hs, run_underlying hd, Result.andThen_ok]
  cases ds <;> simp [Conv.intToInt]
end ints

theorem OpT.eqlB {x y : Operand} {xt yt : TypeId} {a b : Bool} (hu : P.underlying xt = some .bool) (hx : evalO e x = some (.bool a)) (hy : evalO e y = some (.bool b)) (h : K (.bool (a == b)) w) : OpT P e w ⟨d, .binOp .eql xt x y yt, t, pos, af, g⟩ K :=
  OpT.value (fun ρ hρ => by simp [execOp, hρ x _ hx, hρ y _ hy, go_sem, hu]) h
theorem OpT.neqB {x y : Operand} {xt yt : TypeId} {a b : Bool} (hu : P.underlying xt = some .bool) (hx : evalO e x = some (.bool a)) (hy : evalO e y = some (.bool b)) (h : K (.bool (!(a == b))) w) : OpT P e w ⟨d, .binOp .neq xt x y yt, t, pos, af, g⟩ K :=
  OpT.value (fun ρ hρ => by simp [execOp, hρ x _ hx, hρ y _ hy, go_sem, hu]) h
theorem OpT.eqlS {x y : Operand} {xt yt : TypeId} {a b : ByteArray} (hx : evalO e x = some (.string a)) (hy : evalO e y = some (.string b)) (h : K (.bool (a.toList == b.toList)) w) :
    OpT P e w ⟨d, .binOp .eql xt x y yt, t, pos, af, g⟩ K := OpT.value (fun ρ hρ => by simp [execOp, hρ x _ hx, hρ y _ hy, go_sem, binOp, Op.stringOp]) h
theorem OpT.neqS {x y : Operand} {xt yt : TypeId} {a b : ByteArray} (hx : evalO e x = some (.string a)) (hy : evalO e y = some (.string b)) (h : K (.bool (!(a.toList == b.toList))) w) :
    OpT P e w ⟨d, .binOp .neq xt x y yt, t, pos, af, g⟩ K := OpT.value (v := .bool (!(a.toList == b.toList))) (fun ρ hρ => by simp [execOp, hρ x _ hx, hρ y _ hy, go_sem, binOp, Op.stringOp]) h
theorem OpT.lssS {x y : Operand} {xt yt : TypeId} {a b : ByteArray} (hx : evalO e x = some (.string a)) (hy : evalO e y = some (.string b)) (h : K (.bool (Op.bytesLess a.toList b.toList)) w) :
    OpT P e w ⟨d, .binOp .lss xt x y yt, t, pos, af, g⟩ K := OpT.value (fun ρ hρ => by simp [execOp, hρ x _ hx, hρ y _ hy, go_sem, binOp, Op.stringOp]) h
theorem OpT.notB {x : Operand} {xt : TypeId} {b : Bool} (hx : evalO e x = some (.bool b)) (h : K (.bool (!b)) w) : OpT P e w ⟨d, .unOp .not xt x, t, pos, af, g⟩ K :=
  OpT.value (v := .bool (!b)) (fun ρ hρ => by simp [execOp, hρ x _ hx, Op.unary]) h
theorem OpT.extract {x : Operand} {i : Nat} {vs : Array Value} {v : Value} (hx : evalO e x = some (.tuple vs)) (hv : vs[i]? = some v) (h : K v w) : OpT P e w ⟨d, .extract x i, t, pos, af, g⟩ K :=
  OpT.value (fun ρ hρ => by simp [execOp, hρ x _ hx, Instr.extract, hv]) h
theorem OpT.nilCheck {x : Operand} {p : Addr} (hx : evalO e x = some (.pointer (some p))) (h : K (.pointer (some p)) w) : OpT P e w ⟨d, .nilCheck x, t, pos, af, g⟩ K :=
  OpT.value (fun ρ hρ => by simp [execOp, hρ x _ hx]) h
/-! structs and addresses -/
theorem OpT.fieldAddr {x : Operand} {s : TypeId} {f n : Nat} {fs : Array Field} {fd : Field} {p : Addr} (hs : P.underlying s = some (.struct fs)) (hf : fs[f]? = some fd) (hz : SizeIs P fd.type (n + 1))
    (hx : evalO e x = some (.pointer (some p))) (h : K (.pointer (some (p.add fd.offset))) w) : OpT P e w ⟨d, .fieldAddr s x f, t, pos, af, g⟩ K :=
  OpT.value (fun ρ hρ => by simp [execOp, hρ x _ hx, Instr.fieldAt, run_underlying hs, hf, Instr.sureAddr, fieldPlace, hz]) h
theorem OpT.fieldAddrB {x : Operand} {s : TypeId} {f n o off b : Nat} {fs : Array Field} {fd : Field} (hs : P.underlying s = some (.struct fs)) (hf : fs[f]? = some fd) (hz : SizeIs P fd.type (n + 1))
    (hx : evalO e x = some (.pointer (some ⟨b, o, none⟩))) (ho : o + fd.offset = off) (h : K (.pointer (some ⟨b, off, none⟩)) w) : OpT P e w ⟨d, .fieldAddr s x f, t, pos, af, g⟩ K :=
  OpT.fieldAddr hs hf hz hx (by rw [Addr.add_lit, ho]; exact h)
theorem OpT.field {x : Operand} {s : TypeId} {f : Nat} {fs : Array Field} {fd : Field} {cs : Array Value} {v : Value} (hs : P.underlying s = some (.struct fs)) (hf : fs[f]? = some fd) (ha : AggIs P fd.type false)
    (hx : evalO e x = some (.agg cs)) (hv : cs[fd.offset]? = some v) (h : K v w) : OpT P e w ⟨d, .field s x f, t, pos, af, g⟩ K :=
  OpT.value (fun ρ hρ => by simp [execOp, hρ x _ hx, Instr.field, run_underlying hs, hf, part, ha w, asAgg, hv]) h
theorem OpT.fieldA {x : Operand} {s : TypeId} {f n : Nat} {fs : Array Field} {fd : Field} {cs : Array Value} (hs : P.underlying s = some (.struct fs)) (hf : fs[f]? = some fd) (ha : AggIs P fd.type true) (hz : SizeIs P fd.type n)
    (hx : evalO e x = some (.agg cs)) (h : K (.agg (cs.extract fd.offset (fd.offset + n))) w) : OpT P e w ⟨d, .field s x f, t, pos, af, g⟩ K :=
  OpT.value (fun ρ hρ => by simp [execOp, hρ x _ hx, Instr.field, run_underlying hs, hf, part, ha w, hz w, asAgg]) h

theorem OpT.load {x : Operand} {u : TypeId} {p : Addr} {v : Value} (ha : AggIs P u false) (hx : evalO e x = some (.pointer (some p))) (hc : w.cell? p = some v) (h : K v w) : OpT P e w ⟨d, .load u x, t, pos, af, g⟩ K :=
  OpT.value (fun ρ hρ => by simp [execOp, hρ x _ hx, Instr.loadAt, Instr.sureAddr, loadVar, ha w, hc]) h
theorem OpT.loadB {x : Operand} {u : TypeId} {b i : Nat} {vs : List Value} {v : Value} (ha : AggIs P u false) (hx : evalO e x = some (.pointer (some ⟨b, i, none⟩))) (hb : Box w b vs) (hv : vs[i]? = some v) (h : K v w) :
    OpT P e w ⟨d, .load u x, t, pos, af, g⟩ K := OpT.load ha hx ((hb.cell i).trans hv) h
theorem OpT.loadA {x : Operand} {u : TypeId} {p : Addr} {cs : List Value} (ha : AggIs P u true) (hz : SizeIs P u cs.length) (hx : evalO e x = some (.pointer (some p))) (hc : RowAt w p cs) (h : K (.agg cs.toArray) w) :
    OpT P e w ⟨d, .load u x, t, pos, af, g⟩ K :=
  OpT.value (fun ρ hρ => by simp [execOp, hρ x _ hx, Instr.loadAt, Instr.sureAddr, loadVar, ha w, hz w, run_loadCells_list w p cs hc]) h
theorem OpT.loadAB {x : Operand} {u : TypeId} {b n : Nat} {vs : List Value} (ha : AggIs P u true) (hz : SizeIs P u n) (hx : evalO e x = some (.pointer (some ⟨b, 0, none⟩))) (hb : Box w b vs) (hn : vs.length = n) (h : K (.agg vs.toArray) w) :
    OpT P e w ⟨d, .load u x, t, pos, af, g⟩ K := OpT.loadA (cs := vs) ha (by rw [hn]; exact hz) hx (by simpa using hb.rowAt 0) h

theorem OpT.box {x : Operand} {u : TypeId} {v : Value} (hx : evalO e x = some v)
    (h : ∀ w' b, b = w.heap.size → Ext w w' → w'.heap.size = w.heap.size + 1 → Box w' b v.cells.toList → K (.pointer (some ⟨b, 0, none⟩)) w') : OpT P e w ⟨d, .box u x, t, pos, af, g⟩ K :=
  OpT.value (w' := w.alloc (.cells v.cells u)) (fun ρ hρ => by simp [execOp, hρ x _ hx, Instr.box, newVar, newRow])
    (h _ _ rfl (Ext.alloc _ _) (by simp) (by have := Box.new w u v.cells.toList; simpa using this))
theorem OpT.alloc {u : TypeId} {v : Value} (hz : ZeroIs P u v)
    (h : ∀ w' b, b = w.heap.size → Ext w w' → w'.heap.size = w.heap.size + 1 → Box w' b v.cells.toList → K (.pointer (some ⟨b, 0, none⟩)) w') : OpT P e w ⟨d, .alloc u, t, pos, af, g⟩ K :=
  OpT.value (w' := w.alloc (.cells v.cells u)) (fun ρ hρ => by simp [execOp, Instr.alloc, hz w, newVar, newRow])
    (h _ _ rfl (Ext.alloc _ _) (by simp) (by have := Box.new w u v.cells.toList; simpa using this))

/-! stores into a block of one's own -/
theorem one_store {g i : Nat} {vs : List Value} {v : Value} (hb : Box w g vs) (hi : i < vs.length) (hv : v.oneCell' = true) :
    (store ⟨g, i, none⟩ v).run P w = .ok () (w.setCell ⟨g, i, none⟩ v) := by
  rw [run_store P w _ v _ hv, hb.cell, List.getElem?_eq_getElem hi]
  simp [hb.frozen]
theorem OpT.store {x y : Operand} {u : TypeId} {gd : Option (Nat × Bool)} {g i : Nat} {vs : List Value} {v : Value} (hz : SizeIs P u 1) (hx : evalO e x = some (.pointer (some ⟨g, i, none⟩))) (hy : evalO e y = some v) (hv : v.oneCell' = true)
    (hb : Box w g vs) (hi : Nat.blt i vs.length = true) (h : ∀ w', Upd g w w' → w'.heap.size = w.heap.size → Box w' g (vs.set i v) → K undef w') : OpT P e w ⟨d, .store u x y, t, pos, af, gd⟩ K := by
  have hc : v.cells = #[v] := by cases v <;> simp_all [Value.cells, Value.oneCell']
  have hi' : i < vs.length := by simpa [Nat.blt_eq] using hi
  refine OpT.skip (w' := w.setCell ⟨g, i, none⟩ v) (fun ρ hρ => ?_) (h _ (Upd.setCell w ⟨g, i, none⟩ v) (by simp [World.setCell]) (hb.set i v))
  simp [execOp, hρ x _ hx, hρ y _ hy, Instr.storeAt, Instr.sureAddr, storeVar, hz w, hc, storeCells, one_store hb hi' hv, Addr.add_zero']

theorem run_storeCells_box {g : Nat} : ∀ (us : List Value) (i : Nat) (vs : List Value) (w : World), Box w g vs → i + us.length ≤ vs.length → (∀ u ∈ us, u.oneCell' = true) →
    ∃ w', (storeCells ⟨g, 0, none⟩ us i).run P w = .ok () w' ∧ Upd g w w' ∧ (w'.heap.size = w.heap.size ∧ ∀ k t, tyAt w k t → tyAt w' k t) ∧ Box w' g (vs.take i ++ us ++ vs.drop (i + us.length)) := by
  intro us
  induction us with
  | nil => intro i vs w hb _ _; exact ⟨w, by simp [storeCells], Mod.refl _ _, ⟨rfl, fun _ _ h => h⟩, by simpa using hb⟩
  | cons u r ih =>
    intro i vs w hb hl h1
    simp only [List.length_cons] at hl
    have hs := one_store (P := P) hb (i := i) (v := u) (by omega) (h1 u (by simp))
    have hb' := hb.set i u
    obtain ⟨w', hr, hu, hz, hB⟩ := ih (i + 1) (vs.set i u) _ hb' (by simp; omega) (fun x hx => h1 x (by simp [hx]))
    refine ⟨w', ?_, (Upd.setCell w ⟨g, i, none⟩ u).trans hu, ⟨hz.1.trans (by simp [World.setCell]), fun k t h => hz.2 k t (h.setCell _ _)⟩, ?_⟩
    · simp only [storeCells, Sem.run_bind]
      rw [show (⟨g, 0, none⟩ : Addr).add i = ⟨g, i, none⟩ by rw [Addr.add_lit]; simp, hs]
      simpa using hr
    · have e1 : (vs.set i u).take (i + 1) = vs.take i ++ [u] := by
        rw [List.take_succ_eq_append_getElem (by simp; omega), List.take_set_of_le (Nat.le_refl i)]
        simp
      have e2 : (vs.set i u).drop (i + 1 + r.length) = vs.drop (i + (u :: r).length) := by
        rw [List.drop_set_of_lt (by omega)]
        congr 1
        simp only [List.length_cons]; omega
      rw [e1, e2] at hB
      simpa using hB

theorem OpT.storeA {x y : Operand} {u : TypeId} {g n : Nat} {vs us : List Value} {g' : Option (Nat × Bool)} (hz : SizeIs P u n) (hx : evalO e x = some (.pointer (some ⟨g, 0, none⟩))) (hy : evalO e y = some (.agg us.toArray))
    (hn : us.length = n) (h1 : us.all Value.oneCell' = true) (hb : Box w g vs) (hl : vs.length = n)
    (h : ∀ w', Upd g w w' → w'.heap.size = w.heap.size → Box w' g us → K undef w') : OpT P e w ⟨d, .store u x y, t, pos, af, g'⟩ K := by
  obtain ⟨w', hr, hu, hs, hB⟩ := run_storeCells_box (P := P) us 0 vs w hb (by omega) (fun u hu => List.all_eq_true.1 h1 u hu)
  refine OpT.skip (w' := w') (fun ρ hρ => ?_) (h w' hu hs.1 (by
    rw [Nat.zero_add, hn, ← hl] at hB
    simpa using hB))
  simp [execOp, hρ x _ hx, hρ y _ hy, Instr.storeAt, Instr.sureAddr, storeVar, hz w, Value.cells, hn, hr]

/-! calls -/
/-- Operands, one by one. -/
def Args (e : Env) : List Operand → List Value → Prop
  | [], vs => vs = []
  | x :: r, vs => ∃ v us, vs = v :: us ∧ evalO e x = some v ∧ Args e r us
theorem Args.map {ρ : Operand → Value} (hρ : Knows e ρ) : ∀ {l : List Operand} {vs : List Value}, Args e l vs → l.map ρ = vs := by
  intro l
  induction l with
  | nil => intro vs h; exact h.symm
  | cons x r ih => rintro vs ⟨v, us, rfl, hv, hr⟩; simp [hρ x v hv, ih hr]
theorem Args.nil : Args e [] [] := rfl
theorem Args.cons {x : Operand} {r : List Operand} {v : Value} {us : List Value} (hv : evalO e x = some v) (h : Args e r us) : Args e (x :: r) (v :: us) := ⟨v, us, rfl, hv, h⟩

theorem OpT.makeFunc {fn : Fn} {first captured : List Operand} {vs us : List Value} (h1 : Args e first vs) (h2 : Args e captured us) (h : K (.func fn vs.toArray us.toArray) w) :
    OpT P e w ⟨d, .makeFunc fn first.toArray captured.toArray, t, pos, af, g⟩ K := by
  refine OpT.value (fun ρ hρ => ?_) h
  have e1 : first.toArray.map ρ = vs.toArray := by rw [← h1.map hρ]; simp
  have e2 : captured.toArray.map ρ = us.toArray := by rw [← h2.map hρ]; simp
  simp [execOp, Instr.makeFunc, e1, e2]
/-- A call of a function that is named outright. -/
theorem OpT.call {f : FuncId} {args : List Operand} {ats : Array TypeId} {vs : List Value} (hf : EntersAt P f) (ha : Args e args vs) (h : Runs P f vs.toArray w K) :
    OpT P e w ⟨d, .call ⟨.value (.func f), args.toArray, ats⟩, t, pos, af, g⟩ K :=
  OpT.enter (fun ρ hρ => by
    have hfn : ρ (.func f) = .func (.func f) #[] #[] := hρ _ _ rfl
    have hm : args.toArray.map ρ = vs.toArray := by rw [← ha.map hρ]; simp
    simp [execOp, resolve, Deferred.ofValue, hfn, hm, invoke, hf]) h
/-- A call of a function value. -/
theorem OpT.callV {x : Operand} {f : FuncId} {first captured : Array Value} {args : List Operand} {ats : Array TypeId} {vs : List Value} (hf : EntersAt P f) (hx : evalO e x = some (.func (.func f) first captured)) (ha : Args e args vs)
    (h : Runs P f (first ++ vs.toArray ++ captured) w K) : OpT P e w ⟨d, .call ⟨.value x, args.toArray, ats⟩, t, pos, af, g⟩ K :=
  OpT.enter (fun ρ hρ => by
    have hm : args.toArray.map ρ = vs.toArray := by rw [← ha.map hρ]; simp
    simp [execOp, resolve, Deferred.ofValue, hρ x _ hx, hm, invoke, hf]) h

/-! slices, strings -/
theorem OpT.lenS {x : Operand} {st el : TypeId} {A : Option Addr} {n c : Nat} (hs : P.underlying st = some (.slice el)) (hx : evalO e x = some (.slice A n c)) (h : K (.int .i64 n) w) :
    OpT P e w ⟨d, .call ⟨.builtin .len, #[x], #[st]⟩, t, pos, af, g⟩ K :=
  OpT.value (fun ρ hρ => by simp [execOp, resolve, invoke, builtin, Builtin.len_, hρ x _ hx, run_underlying hs, goInt]) h
theorem OpT.lenStr {x : Operand} {st : TypeId} {s : ByteArray} (hs : P.underlying st = some .string) (hx : evalO e x = some (.string s)) (h : K (.int .i64 s.size) w) :
    OpT P e w ⟨d, .call ⟨.builtin .len, #[x], #[st]⟩, t, pos, af, g⟩ K :=
  OpT.value (fun ρ hρ => by simp [execOp, resolve, invoke, builtin, Builtin.len_, hρ x _ hx, run_underlying hs, goInt]) h
theorem OpT.minI {x y : Operand} {k : IntKind} {a b : Int} {ats : Array TypeId} (hx : evalO e x = some (.int k a)) (hy : evalO e y = some (.int k b)) (h : K (.int k (if b < a then b else a)) w) :
    OpT P e w ⟨d, .call ⟨.builtin .min, #[x, y], ats⟩, t, pos, af, g⟩ K :=
  OpT.value (fun ρ hρ => by simp [execOp, resolve, invoke, builtin, Builtin.min_, Builtin.min2, hρ x _ hx, hρ y _ hy]) h
theorem OpT.maxI {x y : Operand} {k : IntKind} {a b : Int} {ats : Array TypeId} (hx : evalO e x = some (.int k a)) (hy : evalO e y = some (.int k b)) (h : K (.int k (if b > a then b else a)) w) :
    OpT P e w ⟨d, .call ⟨.builtin .max, #[x, y], ats⟩, t, pos, af, g⟩ K :=
  OpT.value (fun ρ hρ => by simp [execOp, resolve, invoke, builtin, Builtin.max_, Builtin.max2, hρ x _ hx, hρ y _ hy]) h
theorem OpT.indexAddr {x y : Operand} {st el : TypeId} {A : Option Addr} {a : Addr} {n c sz : Nat} {k : IntKind} {i : Int} (hs : P.underlying st = some (.slice el)) (hz : SizeIs P el sz)
    (hx : evalO e x = some (.slice A n c)) (hy : evalO e y = some (.int k i)) (hA : A = some a) (hi : 0 ≤ i ∧ i < n) (h : K (.pointer (some (a.add (i.toNat * sz)))) w) :
    OpT P e w ⟨d, .indexAddr st x y, t, pos, af, g⟩ K := by
  subst hA
  refine OpT.value (fun ρ hρ => ?_) h
  simp [execOp, Instr.indexAt, asIntOf, hρ x _ hx, hρ y _ hy, run_underlying hs, hi, hz w]
theorem OpT.indexStr {x y : Operand} {st : TypeId} {s : ByteArray} {k : IntKind} {i : Int} {b : UInt8} (hs : P.underlying st = some .string) (hx : evalO e x = some (.string s)) (hy : evalO e y = some (.int k i))
    (hi : 0 ≤ i) (hb : s[i.toNat]? = some b) (h : K (.int .u8 b.toNat) w) : OpT P e w ⟨d, .index st x y, t, pos, af, g⟩ K := by
  refine OpT.value (fun ρ hρ => ?_) h
  simp [execOp, Instr.index, asIntOf, hρ x _ hx, hρ y _ hy, run_underlying hs, hi, hb]
theorem OpT.indexArr {x y : Operand} {at_ el : TypeId} {len : Nat} {cs : Array Value} {k : IntKind} {i : Int} {v : Value} (hs : P.underlying at_ = some (.array len el)) (hz : SizeIs P el 1) (ha : AggIs P el false)
    (hx : evalO e x = some (.agg cs)) (hy : evalO e y = some (.int k i)) (hi : 0 ≤ i ∧ i < len) (hv : cs[i.toNat]? = some v) (h : K v w) : OpT P e w ⟨d, .index at_ x y, t, pos, af, g⟩ K := by
  refine OpT.value (fun ρ hρ => ?_) h
  simp [execOp, Instr.index, asIntOf, hρ x _ hx, hρ y _ hy, run_underlying hs, hi, hz w, part, ha w, hv]
/-- x[lo:hi] of a slice; what a bound that is not there stands for is given. -/
def loOf (e : Env) : Option Operand → Option Int
  | none => some 0
  | some x => match evalO e x with
    | some (.int _ i) => some i
    | _ => none
def hiOf (e : Env) (n : Nat) : Option Operand → Option Int
  | none => some n
  | some x => match evalO e x with
    | some (.int _ i) => some i
    | _ => none
theorem OpT.slice {x : Operand} {lo hi : Option Operand} {st el : TypeId} {A : Option Addr} {n c sz : Nat} {i j : Int} (hs : P.underlying st = some (.slice el)) (hz : SizeIs P el sz)
    (hx : evalO e x = some (.slice A n c)) (hl : loOf e lo = some i) (hh : hiOf e n hi = some j) (hb : 0 ≤ i ∧ i ≤ j ∧ j ≤ c)
    (h : K (.slice (if c = i.toNat then A else A.map (·.add (i.toNat * sz))) (j.toNat - i.toNat) (c - i.toNat)) w) :
    OpT P e w ⟨d, .slice st x lo hi none, t, pos, af, g⟩ K := by
  refine OpT.value (fun ρ hρ => ?_) h
  have bound : ∀ (k : IntKind) (q : Int) (y : Nat) (code : BoundsCode), 0 ≤ q → q ≤ y → (Instr.sliceBound (.int k q) y code).run P w = .ok q.toNat w := by
    intro k q y code h0 h1
    simp [Instr.sliceBound, asIntOf, h0, h1]
  have hlo : lo.map ρ = none ∧ i = 0 ∨ ∃ k, lo.map ρ = some (.int k i) := by
    cases lo with
    | none => simp [loOf] at hl; exact .inl ⟨rfl, hl.symm⟩
    | some y =>
      simp only [loOf] at hl
      split at hl
      · rename_i k q hy; cases hl; exact .inr ⟨k, by simp [hρ y _ hy]⟩
      · cases hl
  have hhi : hi.map ρ = none ∧ j = n ∨ ∃ k, hi.map ρ = some (.int k j) := by
    cases hi with
    | none => simp [hiOf] at hh; exact .inl ⟨rfl, hh.symm⟩
    | some y =>
      simp only [hiOf] at hh
      split at hh
      · rename_i k q hy; cases hh; exact .inr ⟨k, by simp [hρ y _ hy]⟩
      · cases hh
  have hbounds : (Instr.sliceBounds true n c (lo.map ρ) (hi.map ρ) none).run P w = .ok (i.toNat, j.toNat, c) w := by
    unfold Instr.sliceBounds
    rcases hhi with ⟨e2, hj⟩ | ⟨k2, e2⟩
    · rw [e2]
      subst hj
      rcases hlo with ⟨e1, hi0⟩ | ⟨k1, e1⟩
      · rw [e1]; subst hi0; simp
      · rw [e1]; simp [bound k1 i n _ hb.1 hb.2.1]
    · rw [e2]
      have hj' := bound k2 j c .sliceAcap (by omega) hb.2.2
      rcases hlo with ⟨e1, hi0⟩ | ⟨k1, e1⟩
      · rw [e1]; subst hi0; simp [hj']
      · rw [e1]; simp [hj', bound k1 i j.toNat _ hb.1 (by omega)]
  simp [execOp, hρ x _ hx, Instr.sliceAt, Instr.slice, run_underlying hs, hbounds, hz w]

/-! more -/
theorem OpT.convIn {x : Operand} {s u : TypeId} {k kd : IntKind} {a : Int} (hs : (P.underlying s).isSome = true) (hd : P.underlying u = some (.int kd)) (hx : evalO e x = some (.int k a)) (hw : kd.wrap a = a) (h : K (.int kd a) w) :
    OpT P e w ⟨d, .convert s u x, t, pos, af, g⟩ K := OpT.convI hs hd hx (by rw [hw]; exact h)
theorem OpT.addU {x y : Operand} {xt yt : TypeId} {a b : Int} (hx : evalO e x = some (.int .u64 a)) (hy : evalO e y = some (.int .u64 b)) (hb : 0 ≤ a + b ∧ a + b ≤ 18446744073709551615)
    (h : K (.int .u64 (a + b)) w) : OpT P e w ⟨d, .binOp .add xt x y yt, t, pos, af, g⟩ K := OpT.addW hx hy (by rw [wrap_u64 hb]; exact h)
theorem OpT.neg {x : Operand} {xt : TypeId} {a : Int} (hx : evalO e x = some (.int .i64 a)) (hb : -9223372036854775807 ≤ a ∧ a ≤ 9223372036854775807) (h : K (.int .i64 (-a)) w) : OpT P e w ⟨d, .unOp .neg xt x, t, pos, af, g⟩ K :=
  OpT.value (v := .int .i64 (-a)) (fun ρ hρ => by
    have := wrap_i64 (n := -a) (by omega)
    simp [execOp, hρ x _ hx, Op.unary, Op.intArith, this]) h
theorem OpT.loadABo {x : Operand} {u : TypeId} {b o n : Nat} {vs cs : List Value} (ha : AggIs P u true) (hz : SizeIs P u n) (hx : evalO e x = some (.pointer (some ⟨b, o, none⟩))) (hb : Box w b vs) (hc : (vs.drop o).take n = cs)
    (hn : cs.length = n) (h : K (.agg cs.toArray) w) : OpT P e w ⟨d, .load u x, t, pos, af, g⟩ K :=
  OpT.loadA (cs := cs) ha (by rw [hn]; exact hz) hx (by rw [← hc]; exact (hb.rowAt o).take n) h
theorem OpT.indexAddrArr {x y : Operand} {at_ el : TypeId} {len sz : Nat} {p : Addr} {k : IntKind} {i : Int} (hs : P.underlying at_ = some (.array len el)) (hz : SizeIs P el sz)
    (hx : evalO e x = some (.pointer (some p))) (hy : evalO e y = some (.int k i)) (hi : 0 ≤ i ∧ i < len) (h : K (.pointer (some (p.add (i.toNat * sz)))) w) : OpT P e w ⟨d, .indexAddr at_ x y, t, pos, af, g⟩ K := by
  refine OpT.value (fun ρ hρ => ?_) h
  simp [execOp, Instr.indexAt, asIntOf, hρ x _ hx, hρ y _ hy, run_underlying hs, hi, hz w, Instr.sureAddr]

/-- The parts of something that is built. -/
def PArgs (e : Env) : List (Nat × Operand) → List (Nat × Value) → Prop
  | [], vs => vs = []
  | (i, x) :: r, vs => ∃ v us, vs = (i, v) :: us ∧ evalO e x = some v ∧ PArgs e r us
theorem PArgs.nil : PArgs e [] [] := rfl
theorem PArgs.cons {i : Nat} {x : Operand} {r : List (Nat × Operand)} {v : Value} {us : List (Nat × Value)} (hv : evalO e x = some v) (h : PArgs e r us) : PArgs e ((i, x) :: r) ((i, v) :: us) := ⟨v, us, rfl, hv, h⟩
theorem PArgs.map {ρ : Operand → Value} (hρ : Knows e ρ) : ∀ {l : List (Nat × Operand)} {vs : List (Nat × Value)}, PArgs e l vs → l.map (fun (i, x) => (i, ρ x)) = vs := by
  intro l
  induction l with
  | nil => intro vs h; exact h.symm
  | cons p r ih =>
    obtain ⟨i, x⟩ := p
    rintro vs ⟨v, us, rfl, hv, hr⟩; simp [hρ x v hv, ih hr]

/-- Where the fields of a struct lie, as this program has it. -/
abbrev PlacesAre (P : Program) (fs : Array Field) (pl : Array (Nat × Nat)) : Prop := ∀ w : World, (Array.mapM (fun f : Field => Prod.mk f.offset <$> sizeOf f.type) fs).run P w = .ok pl w

theorem OpT.build {bt : TypeId} {parts : List (Nat × Operand)} {vs : List (Nat × Value)} {zc cs : Array Value} {fs : Array Field} {pl : Array (Nat × Nat)} (hv : PArgs e parts vs) (hz : ZeroIs P bt (.agg zc)) (hu : P.underlying bt = some (.struct fs))
    (hp : PlacesAre P fs pl) (hf : Instr.fill (pl[·]?) zc vs = some cs) (h : K (.agg cs) w) : OpT P e w ⟨d, .build bt parts.toArray, t, pos, af, g⟩ K := by
  refine OpT.value (fun ρ hρ => ?_) h
  have hm : parts.toArray.map (fun (i, x) => (i, ρ x)) = vs.toArray := by rw [← hv.map hρ]; simp
  simp [execOp, hm, Instr.build, hz w, Value.cells, run_underlying hu, hp w, hf]
theorem OpT.buildArr {bt el : TypeId} {len sz : Nat} {parts : List (Nat × Operand)} {vs : List (Nat × Value)} {zc cs : Array Value} (hv : PArgs e parts vs) (hz : ZeroIs P bt (.agg zc)) (hu : P.underlying bt = some (.array len el))
    (hs : SizeIs P el sz) (hf : Instr.fill (fun i => some (i * sz, sz)) zc vs = some cs) (h : K (.agg cs) w) : OpT P e w ⟨d, .build bt parts.toArray, t, pos, af, g⟩ K := by
  refine OpT.value (fun ρ hρ => ?_) h
  have hm : parts.toArray.map (fun (i, x) => (i, ρ x)) = vs.toArray := by rw [← hv.map hρ]; simp
  simp [execOp, hm, Instr.build, hz w, Value.cells, run_underlying hu, hs w, hf]

theorem OpT.buildSlice {bt el : TypeId} {len sz : Nat} {parts : List (Nat × Operand)} {vs : List (Nat × Value)} {z : Value} {cs : Array Value} (hv : PArgs e parts vs) (hu : P.underlying bt = some (.slice el)) (hs : SizeIs P el sz) (hz : ZeroIs P el z)
    (hsm : Nat.ble (len * sz) 16777216 = true) (hf : Instr.fill (fun i => some (i * sz, sz)) ((Array.range (len * sz)).map ((if len * sz = 0 then #[] else z.cells)[· % (if len * sz = 0 then #[] else z.cells).size]!)) vs = some cs)
    (h : ∀ w' b, b = w.heap.size → Ext w w' → w'.heap.size = w.heap.size + 1 → Box w' b cs.toList → K (.slice (some ⟨b, 0, none⟩) len len) w') : OpT P e w ⟨d, .buildSlice bt len parts.toArray, t, pos, af, g⟩ K := by
  refine OpT.value (w' := w.alloc (.cells cs el)) (fun ρ hρ => ?_) (h _ _ rfl (Ext.alloc _ _) (by simp) (by have := Box.new w el cs.toList; simpa using this))
  have hm : parts.toArray.map (fun (i, x) => (i, ρ x)) = vs.toArray := by rw [← hv.map hρ]; simp
  have hle : ¬ (len * sz > 2 ^ 24) := by have := Nat.le_of_ble_eq_true hsm; omega
  by_cases h0 : len * sz = 0
  · simp only [h0, if_true] at hf
    simp [execOp, hm, Instr.buildSlice, run_underlying hu, hs w, h0, newRow]
    simp at hf
    simp [hf]
  · simp only [h0, if_false] at hf
    simp [execOp, hm, Instr.buildSlice, run_underlying hu, hs w, hle, h0, hz w, newRow, hf]
end
section
variable {P : Program} {fn : Func} {e : Env} {w : World}
/-- A result that lies in a block of one's own. -/
theorem Res.cellA {a : Tmp} {t : TypeId} {b n : Nat} {vs : List Value} (h : fn.results = #[.cell a t]) (ha : look e a = some (.pointer (some ⟨b, 0, none⟩))) (hg : AggIs P t true) (hz : SizeIs P t n) (hn : vs.length = n) (hb : Box w b vs) :
    Res P fn e w (.agg vs.toArray) := fun k ac hac => by
  have h1 := getD_of hac ha
  have h2 := run_loadCells_list (P := P) w ⟨b, 0, none⟩ vs (by have h0 := hb.rowAt 0; rw [List.drop_zero] at h0; exact h0)
  subst hn
  simp only [Array.getD_eq_getD_getElem?] at h1
  simp [results, h, h1, asAddr, loadVar, hg w, hz w, h2]
theorem Res.cell1 {a : Tmp} {t : TypeId} {b : Nat} {v : Value} (h : fn.results = #[.cell a t]) (ha : look e a = some (.pointer (some ⟨b, 0, none⟩))) (hg : AggIs P t false) (hb : Box w b [v]) :
    Res P fn e w v := fun k ac hac => by
  have h1 := getD_of hac ha
  have h2 := hb.cell 0
  simp only [Array.getD_eq_getD_getElem?] at h1
  simp [results, h, h1, asAddr, loadVar, hg w, h2]
theorem Res.cellA1 {a u : Tmp} {t : TypeId} {b n : Nat} {vs : List Value} {v : Value} (h : fn.results = #[.cell a t, .tmp u]) (ha : look e a = some (.pointer (some ⟨b, 0, none⟩))) (hu : look e u = some v) (hg : AggIs P t true) (hz : SizeIs P t n) (hn : vs.length = n) (hb : Box w b vs) :
    Res P fn e w (.tuple #[.agg vs.toArray, v]) := fun k ac hac => by
  have h1 := getD_of hac ha
  have h3 := getD_of hac hu
  have h2 := run_loadCells_list (P := P) w ⟨b, 0, none⟩ vs (by have h0 := hb.rowAt 0; rw [List.drop_zero] at h0; exact h0)
  subst hn
  simp only [Array.getD_eq_getD_getElem?] at h1 h3
  simp [results, h, h1, h3, asAddr, loadVar, hg w, hz w, h2]
end
/-- A slice of bytes that holds a text's. -/
def SlS (w : World) (A : Option Addr) (s : ByteArray) : Prop := ∀ i, i < s.size → ∃ a, A = some a ∧ w.cell? (a.add (i * 1)) = some (.int .u8 s[i]!.toNat)
theorem SlS.mod {S : Nat → Prop} {w w' : World} {A : Option Addr} {s : ByteArray} (h : SlS w A s) (hm : Mod S w w') (hS : ∀ a, A = some a → ¬ S a.block) : SlS w' A s := by
  intro i hi
  obtain ⟨a, ha, hc⟩ := h i hi
  exact ⟨a, ha, cell_mod hm hc (by rw [block_add]; exact hS a ha)⟩
theorem SlS.ext {w w' : World} {A : Option Addr} {s : ByteArray} (h : SlS w A s) (hm : Ext w w') : SlS w' A s := h.mod hm fun _ _ h => h
theorem OpT.strBytes {P : Program} {e : Env} {w : World} {K : Value → World → Prop} {d : Option Tmp} {t : TypeId} {pos : String} {af : Array Edge} {g : Option (Nat × Bool)} {x : Operand} {src dst el : TypeId} {s : ByteArray} {u : TypeDesc}
    (hs : P.underlying src = some u) (hd : P.underlying dst = some (.slice el)) (he : P.underlying el = some (.int .u8)) (hx : evalO e x = some (.string s)) (hsz : s.size ≤ 9223372036854775807)
    (h : ∀ w' b c, b = w.heap.size → Ext w w' → w'.heap.size = w.heap.size + 1 → SlS w' (some ⟨b, 0, none⟩) s → s.size ≤ c → c ≤ 9223372036854775807 → K (.slice (some ⟨b, 0, none⟩) s.size c) w') :
    OpT P e w ⟨d, .convert src dst x, t, pos, af, g⟩ K := by
  refine OpT.value (w' := Lib.bytesWorld w el s) (v := .slice (some ⟨w.heap.size, 0, none⟩) s.size (grownCap w s.size 0 el)) (fun ρ hρ => ?_)
    (h _ _ _ rfl ?_ (Lib.bytesWorld_size w el s) ?_ (grownCap_ge _ _ _ _) ?_)
  · simp [execOp, hρ x _ hx, Lib.run_convert_string_bytes w src dst el s hs hd he]
  · refine ⟨?_, ?_, ?_, by rw [Lib.bytesWorld_size]; omega, fun k hk _ => Lib.bytesWorld_at_old w el s k hk⟩ <;>
      (unfold Lib.bytesWorld World.freeze; split <;> simp [World.alloc, World.drew, -World.alloc_eq, -World.drew_eq])
  · intro i hi
    refine ⟨_, rfl, ?_⟩
    rw [Addr.add_lit, Nat.mul_one, Nat.zero_add, Lib.bytesWorld_cell w el s i hi, getElem!_pos s i hi]
    have hl : i < s.data.toList.length := by simpa using hi
    simp only [List.getD_eq_getElem?_getD, List.getElem?_eq_getElem hl, Option.getD_some]
    rfl
  · exact grownCap_le_maxLen w s.size 0 el (by unfold maxLen; omega)
theorem boolSlot {e : Env} {t : Nat} {a b : Bool} (h : a = b) (hl : look e t = some (.bool a)) : look e t = some (.bool b) := by rw [hl, h]
theorem intSlot {e : Env} {t : Nat} {k : IntKind} {a b : Int} (h : a = b) (hl : look e t = some (.int k a)) : look e t = some (.int k b) := by rw [hl, h]
theorem getB {s : ByteArray} {i : Nat} (h : i < s.size) : s[i]? = some s[i]! := by
  rw [getElem?_pos s i h, getElem!_pos s i h]
theorem all_succ {p : Nat → Prop} {k : Nat} (h : ∀ i, i < k → p i) (hk : p k) : ∀ i, i < k + 1 → p i := by
  intro i hi
  rcases Nat.lt_succ_iff_lt_or_eq.1 hi with h1 | rfl
  · exact h i h1
  · exact hk
theorem nT {b : Bool} (h : b = true) : (!b) = false := by rw [h]; rfl
theorem nF {b : Bool} (h : b = false) : (!b) = true := by rw [h]; rfl
theorem all_of_idx {α : Type} {p : α → Bool} {ls : List α} {k : Nat} (h : ∀ i, i < k → ∀ l, ls[i]? = some l → p l = true) (hk : ls.length ≤ k) : ls.all p = true := by
  refine List.all_eq_true.2 fun l hl => ?_
  obtain ⟨i, hi, he⟩ := List.mem_iff_getElem.1 hl
  exact h i (by omega) l (by rw [List.getElem?_eq_getElem hi, he])
theorem all_no {α : Type} {p : α → Bool} {ls : List α} {k : Nat} (hk : k < ls.length) (h : p ls[k] = false) : ls.all p = false :=
  List.all_eq_false.2 ⟨ls[k], List.getElem_mem hk, by simp [h]⟩
theorem not_false' {b : Bool} (h : (!b) = false) : b = true := by cases b <;> simp_all
theorem not_true' {b : Bool} (h : (!b) = true) : b = false := by cases b <;> simp_all
end Go.Proofs.Bw
