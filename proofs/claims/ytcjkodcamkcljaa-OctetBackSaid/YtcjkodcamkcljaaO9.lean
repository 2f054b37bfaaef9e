/-
  Bytes with room behind them: roomy, and what looks whether they are as they were: kept.
-/
import Derived.Test.YtcjkodcamkcljaaO8
import Derived.Laws.MakeOwn
namespace Go.Proofs.Ytcjkodcamkcljaa
open Go Go.RowKit Go.Proofs.Bw
set_option linter.unusedVariables false
set_option linter.unusedSimpArgs false

def zs (n : Nat) : List UInt8 := List.replicate n 0
theorem zs_len (n : Nat) : (zs n).length = n := List.length_replicate
theorem made8 (n : Nat) : madeCells #[Value.int .u8 0] (n * 1) = ((bR (zs n)).flatten).toArray := by
  apply Array.ext'
  rw [Nat.mul_one, bR_flat, zs]
  simp only [madeCells, Array.toList_map, Array.toList_range, List.map_replicate]
  rw [List.eq_replicate_iff]
  refine ⟨by simp, fun v hv => ?_⟩
  obtain ⟨i, _, rfl⟩ := List.mem_map.1 hv
  have : i % (#[Value.int .u8 0] : Array Value).size = 0 := Nat.mod_one i
  rw [this]; rfl
theorem Box.rd8 {w : World} {g : Nat} {l : List UInt8} (b : Box w g (bR l).flatten) : Rd w (fun k => k = g) 1 (some ⟨g, 0, none⟩) (bR l) := by
  intro i r hr
  refine ⟨_, rfl, rfl, fun j u hu => ?_⟩
  simp only [bR, List.getElem?_map, Option.map_eq_some_iff] at hr
  obtain ⟨c, hc, rfl⟩ := hr
  cases j with
  | succ j => simp at hu
  | zero =>
    simp only [List.getElem?_cons_zero, Option.some.injEq] at hu
    subst hu
    rw [add_add, Addr.add_lit, b.cell, bR_flat]
    simp [hc]
theorem Rd.pre {w : World} {R : Nat → Prop} {A : Option Addr} {l t : List UInt8} (h : Rd w R 1 A (bR (l ++ t))) : Rd w R 1 A (bR l) := fun i r hr => h i r (by
  rw [bR_append, List.getElem?_append_left (by
    rcases Nat.lt_or_ge i (bR l).length with h1 | h1
    · exact h1
    · rw [List.getElem?_eq_none h1] at hr; cases hr)]
  exact hr)
/-- its own block: the bytes, and room of zeros -/
def RoomAt (w : World) (lo g : Nat) (bs : List UInt8) : Prop := lo ≤ g ∧ Box w g (bR (bs ++ zs 64)).flatten
theorem RoomAt.rb {w : World} {lo g : Nat} {bs : List UInt8} (h : RoomAt w lo g bs) (hl : bs.length ≤ 1000000) : RB w (fun k => k = g) (.slice (some ⟨g, 0, none⟩) bs.length (bs.length + 64)) bs :=
  ⟨_, _, rfl, ⟨by omega, by omega⟩, Rd.pre (Box.rd8 h.2)⟩
theorem RoomAt.ext {w w' : World} {lo g : Nat} {bs : List UInt8} (h : RoomAt w lo g bs) (hx : Ext w w') : RoomAt w' lo g bs := ⟨h.1, h.2.ext hx⟩
section
variable {e : Env} {w : World} {K : Value → World → Prop} {d : Option Tmp} {t : TypeId} {pos : String} {af : Array Edge} {g' : Option (Nat × Bool)}
theorem OpT.make8 {x y : Operand} {kl kc : IntKind} {c : Nat} (hx : evalO e x = some (.int kl 0)) (hy : evalO e y = some (.int kc (c : Int))) (hc : c ≤ 281474976710656)
    (h : ∀ w', Ext w w' → w'.heap[w.heap.size]? = some (.cells (bR (zs c)).flatten.toArray 5 (0, 0)) → K (.slice (some ⟨w.heap.size, 0, none⟩) 0 c) w') :
    OpT Try.prog e w ⟨d, .makeSlice 22 x y, t, pos, af, g'⟩ K := by
  have hr := run_make (P := Try.prog) w 22 5 Try.t5 (Try.t5.zero.get rfl) Try.underlying22 (by kernel_rfl) rfl kl kc 0 c (Int.le_refl _) (by omega) (by show (1 : Int) * (c : Int) ≤ _; omega) (by omega)
  have e1 : madeCells (Try.t5.zero.get rfl).cells ((c : Int).toNat * Try.t5.size) = (bR (zs c)).flatten.toArray := made8 c
  rw [e1] at hr
  refine OpT.value (fun ρ hρ => ?_) (h _ (Ext.alloc _ _) (heap_alloc_new w _))
  simp [execOp, hρ x _ hx, hρ y _ hy, hr]
theorem OpT.room8 {x y : Operand} {g c m cc : Nat} {B : Option Addr} {R : Nat → Prop} {bs : List UInt8} (hx : evalO e x = some (.slice (some ⟨g, 0, none⟩) 0 c)) (hy : evalO e y = some (.slice B m cc))
    (hg : w.heap[g]? = some (.cells (bR (zs c)).flatten.toArray 5 (0, 0))) (hR : Rd w R 1 B (bR bs)) (hm : m = bs.length) (hc : m ≤ c)
    (h : ∀ w', Upd g w w' → Box w' g (bR (bs ++ zs (c - m))).flatten → K (.slice (some ⟨g, 0, none⟩) m c) w') :
    OpT Try.prog e w ⟨d, .call ⟨.builtin .append, #[x, y], #[22, 22]⟩, t, pos, af, g'⟩ K := by
  subst hm
  have hs := hR.src (P := Try.prog) (tx := 22) Try.underlying22 (bR_len bs) (bR_ones bs) cc
  rw [bR_length] at hs
  have hr := run_append_room_own (P := Try.prog) (ty := t) w (t := 22) Try.underlying22 (i := Try.t5) (by kernel_rfl) g 0 c _ hg hs (by omega) (by
    simp only [Nat.zero_mul, Nat.zero_add, List.size_toArray, bR_flat, List.length_map, zs_len]; exact hc)
  have e1 : ((bR (zs c)).flatten.toArray.toList.take (0 * Try.t5.size) ++ (bR bs).flatten ++ (bR (zs c)).flatten.toArray.toList.drop (0 * Try.t5.size + (bR bs).flatten.length)) = (bR (bs ++ zs (c - bs.length))).flatten := by
    simp only [Nat.zero_mul, List.take_zero, List.nil_append, Nat.zero_add, bR_flat, List.length_map, ← List.map_drop, List.map_append, zs, List.drop_replicate]
  rw [e1, Nat.zero_add] at hr
  refine OpT.value (w' := w.setRow g (bR (bs ++ zs (c - bs.length))).flatten.toArray) (fun ρ hρ => ?_) (h _ ⟨rfl, rfl, rfl, by simp [World.setRow], fun k _ hk => setRow_other w g k _ hk⟩ ⟨_, setRow_heap w g _ _ _ _ hg⟩)
  simp [execOp, resolve, invoke, builtin, hρ x _ hx, hρ y _ hy, hr]
end
theorem numR_put {bs : List UInt8} {n most : Nat} {t : List UInt8} (hd : bs = num7 n ++ t) (hn : n < 2 ^ 64) (hm : n ≤ most) : numR bs most 0 = (n, (num7 n).length, 0) := by
  rw [hd, numR, numOf_put n hn]
  simp only
  rw [if_neg (by omega)]
theorem read_put {bs : List UInt8} {at_ n most : Nat} {sp : Int} {t : List UInt8} (hd : bs.drop at_ = num7 n ++ t) (hn : n < 2 ^ 64) (hm : n ≤ most) : ((⟨bs, at_, 0, sp⟩ : Rdr).read 0 fun bs => numR bs most 0) = (⟨bs, at_ + (num7 n).length, 0, sp⟩, n) := by
  have e := numR_put hd hn hm
  simp only [Rdr.read, e]
  simp
theorem roomy_runs {R : Nat → Prop} (b : Value) (bs : List UInt8) (w : World) (hb : RB w R b bs) (hs : bs.length ≤ 1000000) :
    Runs Try.prog 9 #[b] w fun v w' => Ext w w' ∧ v = .slice (some ⟨w.heap.size, 0, none⟩) bs.length (bs.length + 64) ∧ RoomAt w' w.heap.size w.heap.size bs := by
  obtain ⟨A0, c0, rfl, hl0, hb⟩ := hb
  refine Runs.of_vc cx_ok [0, 2] [.v _] Try.func9 rfl rfl rfl (Holds.nil _) ?_
  refine vsd (by simp only [inKind]; omega) ?_
  refine OpT.make8 (c := bs.length + 64) rfl rfl (by omega) fun w1 x1 h1 => ?_
  refine Lands.v (Holds.nil _) ?_
  refine OpT.room8 rfl rfl h1 (hb.ext x1) rfl (by omega) fun w2 m2 b2 => ?_
  refine Lands.v (Holds.nil _) ?_
  refine ⟨x1.trans' m2 (fun i hi he => by omega), rfl, Nat.le_refl _, ?_⟩
  rwa [Nat.add_sub_cancel_left] at b2
theorem kept_runs {R : Nat → Prop} (b : Value) (bs : List UInt8) (lo g : Nat) (w : World) (hr : RoomAt w lo g bs) (hb : RB w R b bs) (hs : bs.length ≤ 1000000) :
    Runs Try.prog 16 #[.slice (some ⟨g, 0, none⟩) bs.length (bs.length + 64), b] w fun v w' => v = .bool true ∧ Ext w w' := by
  obtain ⟨A0, c0, rfl, hl0, hb⟩ := hb
  refine Runs.of_vc cx_ok [0, 1, 4, 5, 6, 11, 22, 29] [.v _, .v _] Try.func16 rfl rfl rfl (Holds.nil _) ?_
  have rr := Box.rd8 hr.2
  refine OpT.bytesStr Try.underlying22 Try.underlying5 Try.underlying9 rfl (Rd.pre rr) rfl ?_
  refine Lands.v (Holds.nil _) ?_
  refine OpT.bytesStr Try.underlying22 Try.underlying5 Try.underlying9 rfl hb rfl ?_
  refine Lands.v (Holds.nil _) ?_
  refine And.intro (fun h => by simp at h) (fun _ => ?_)
  refine vsd (by simp only [inKind]; omega) ?_
  have ec : (bs.length : Int) + 64 = ((bs.length + 64 : Nat) : Int) := rfl
  refine OpT.sliceR (m := bs.length + 64) Try.underlying22 Try.sizeOf5 rfl rfl rfl rr (by rw [bR_length, List.length_append, zs_len]; omega) (by omega) (by omega) fun A1 r1 => ?_
  refine Lands.v (Holds.nil _) ?_
  rw [show (Int.toNat 0) = 0 from rfl, List.drop_zero] at r1
  refine vLoop_mk (σ := Nat) (fun q => [(5, .v (.slice A1 (bs.length + 64) (bs.length + 64 - 0))), (6, .v (.int .i64 q))]) (fun _ => [])
    (fun q w' => Ext w w' ∧ bs.length ≤ q ∧ q ≤ bs.length + 64) (fun q => bs.length + 64 - q) bs.length (fun _ => ⟨rfl, rfl⟩)
    ⟨⟨rfl, rfl, trivial⟩, trivial, Ext.refl _, Nat.le_refl _, by omega⟩ ?_
  rintro k w1 hh ⟨x1, hk, hk2⟩
  refine And.intro (fun h => ?_) (fun h => ?_)
  · have hlt := of_decide_eq_true h
    have hget : (bR (bs ++ zs 64))[k]? = some [.int .u8 0] := by
      simp only [bR, List.getElem?_map, zs]
      rw [List.getElem?_append_right (by omega), List.getElem?_replicate, if_pos (by omega)]; rfl
    obtain ⟨a1, ha1, hR1, hrow⟩ := (r1.ext x1).at hget
    refine OpT.indexAddr Try.underlying22 Try.sizeOf5 rfl rfl ha1 (by omega) ?_
    refine Lands.v (Holds.nil _) ?_
    refine OpT.load Try.isAgg5 rfl (hrow.cell 0 rfl) ?_
    refine Lands.v (Holds.nil _) ?_
    refine And.intro (fun h2 => by simp at h2) (fun _ => ?_)
    refine vsd (by simp only [inKind]; omega) ?_
    exact Exists.intro (k + 1) ⟨by omega, ⟨rfl, rfl, trivial⟩, trivial, x1, by omega, by omega⟩
  · exact ⟨rfl, x1⟩
theorem read_rel {α : Type} (r : Rdr) (x0 : α) (f : List UInt8 → α × Nat × Int) (hf : ∀ bs, (f bs).2.2 ≠ 0 → (f bs).1 = x0) (hle : ∀ bs, (f bs).2.1 ≤ bs.length) (hr : r.ok) :
    (r.bad ≠ 0 → (r.read x0 f).2 = x0 ∧ (r.read x0 f).1 = r) ∧ ((r.read x0 f).1.bad ≠ 0 → (r.read x0 f).2 = x0 ∧ (r.read x0 f).1.at_ = r.at_) ∧ r.at_ ≤ (r.read x0 f).1.at_ ∧ (r.read x0 f).1.ok ∧ (r.read x0 f).1.bs = r.bs := by
  obtain ⟨h1, h2⟩ := hr
  have hl := hle (r.bs.drop r.at_)
  rw [List.length_drop] at hl
  unfold Rdr.read
  by_cases hb : r.bad = 0
  · rw [if_neg (by simpa using hb)]
    by_cases he : (f (r.bs.drop r.at_)).2.2 = 0
    · rw [if_neg (by simpa using he)]
      exact ⟨fun h => absurd hb h, fun h => absurd hb h, Nat.le_add_right _ _, ⟨h1, by simp only; omega⟩, rfl⟩
    · rw [if_pos he]
      exact ⟨fun h => absurd hb h, fun _ => ⟨hf _ he, rfl⟩, Nat.le_refl _, ⟨h1, h2⟩, rfl⟩
  · rw [if_pos hb]
    exact ⟨fun _ => ⟨rfl, rfl⟩, fun _ => ⟨rfl, rfl⟩, Nat.le_refl _, ⟨h1, h2⟩, rfl⟩
theorem numR_err (bs : List UInt8) (most : Nat) : (numR bs most 0).2.2 ≠ 0 → (numR bs most 0).1 = 0 := by
  unfold numR
  split
  · intro _; rfl
  · split
    · intro _; rfl
    · intro h; exact absurd rfl h
theorem byteR_err (bs : List UInt8) : (byteR bs 0).2.2 ≠ 0 → (byteR bs 0).1 = 0 := by
  unfold byteR
  split
  · intro _; rfl
  · intro h; exact absurd rfl h
theorem byteR_le' (bs : List UInt8) : (byteR bs 0).2.1 ≤ bs.length := by
  unfold byteR
  split
  · exact Nat.le_refl _
  · simp
theorem nameR_err (bs : List UInt8) (s0 : ByteArray) : (nameR bs s0).2.2 ≠ 0 → (nameR bs s0).1 = s0 := by
  unfold nameR
  split
  · intro _; rfl
  · split
    · intro _; rfl
    · split
      · intro _; rfl
      · split
        · intro h; exact absurd rfl h
        · intro _; rfl
theorem nameR_le' (bs : List UInt8) (s0 : ByteArray) : (nameR bs s0).2.1 ≤ bs.length := by
  unfold nameR
  split
  · exact Nat.zero_le _
  · rename_i n k hn
    have := (numOf_got hn).2.1
    split
    · exact Nat.zero_le _
    · split
      · exact Nat.zero_le _
      · split
        · simp only; omega
        · exact Nat.zero_le _
end Go.Proofs.Ytcjkodcamkcljaa

