import Derived.Test.YtnoghkpofpaeeaaGreatSpec
namespace Go.Proofs.Bw
open Go Go.RowKit
theorem run_equalIn_arr4 {P : Program} (d : Nat) (t el : TypeId) (hu : P.underlying t = some (.array 4 el)) (hs : SizeIs P el 1) (ha : AggIs P el false) (he : P.underlying el = some (.int .i64)) (w : World) (x0 x1 x2 x3 y0 y1 y2 y3 : Int) :
    (Op.equalIn (d + 2) t (.agg #[.int .i64 x0, .int .i64 x1, .int .i64 x2, .int .i64 x3]) (.agg #[.int .i64 y0, .int .i64 y1, .int .i64 y2, .int .i64 y3])).run P w =
      .ok (decide (x0 = y0) && decide (x1 = y1) && decide (x2 = y2) && decide (x3 = y3)) w := by
  have e3 : ∀ (w : World) (x y : Int), (Op.equalIn (d + 1) el (.int .i64 x) (.int .i64 y)).run P w = .ok (x == y) w := fun w x y => run_equalIn_int w d el .i64 .i64 x y he
  rw [Op.equalIn]
  simp only [Sem.run_bind, run_underlying hu, Result.andThen_ok, hs w, Std.Legacy.Range.forIn_eq_forIn_range', Std.Legacy.Range.size]
  by_cases h0 : x0 = y0 <;> by_cases h1 : x1 = y1 <;> by_cases h2 : x2 = y2 <;> by_cases h3 : x3 = y3 <;>
      simp [List.range', List.forIn_cons, part, ha w, e3, h0, h1, h2, h3]
theorem run_equalL {P : Program} (d : Nat) (t at_ el : TypeId) {fs : Array Field} {f0 f1 : Field} (hu : P.underlying t = some (.struct fs)) (hfs : fs = #[f0, f1]) (h0 : f0.name ≠ "_" ∧ f0.type = el ∧ f0.offset = 0) (h1 : f1.name ≠ "_" ∧ f1.type = at_ ∧ f1.offset = 1) (hp : P.stoodInHeld t = false)
    (hua : P.underlying at_ = some (.array 4 el)) (hs : SizeIs P el 1) (ha : AggIs P el false) (hag : AggIs P at_ true) (hsa : SizeIs P at_ 4) (he : P.underlying el = some (.int .i64)) (w : World) (a b : L) :
    (Op.equalIn (d + 3) t (.agg a.cells.toArray) (.agg b.cells.toArray)).run P w = .ok (a.same b) w := by
  obtain ⟨a0, a1, a2, a3, a4⟩ := a
  obtain ⟨b0, b1, b2, b3, b4⟩ := b
  subst hfs
  have hf : P.fieldsOf t = #[f0, f1] := by simp [Program.fieldsOf, hu]
  rw [run_equalIn_struct w (d + 2) t _ _ (by rw [hf]; exact hu) hp, hf]
  have e3 : ∀ (w : World) (x y : Int), (Op.equalIn (d + 2) el (.int .i64 x) (.int .i64 y)).run P w = .ok (x == y) w := fun w x y => run_equalIn_int w (d + 1) el .i64 .i64 x y he
  have e4 := run_equalIn_arr4 (P := P) d at_ el hua hs ha he
  simp only [L.cells, L.same, Op.eqFields]
  by_cases h : a0 = b0
  · simp [h0, h1, part, ha w, hag w, hsa w, e3, e4, h]
    by_cases h1 : a1 = b1 <;> by_cases h2 : a2 = b2 <;> by_cases h3 : a3 = b3 <;> by_cases h4 : a4 = b4 <;> simp [h1, h2, h3, h4]
  · simp [h0, part, ha w, e3, h]
end Go.Proofs.Bw
