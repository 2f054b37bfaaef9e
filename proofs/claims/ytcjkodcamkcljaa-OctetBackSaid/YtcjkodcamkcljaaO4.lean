/-
  The number with which bytes begin.
-/
import Derived.Test.YtcjkodcamkcljaaO3
namespace Go.Proofs.Ytcjkodcamkcljaa
open Go Go.RowKit Go.Proofs.Bw
set_option linter.unusedVariables false
set_option linter.unusedSimpArgs false

/-- The number of bytes from the k-th one on, and how many it has. -/
def scan7 : Nat → List UInt8 → Option (Nat × Nat)
  | _, [] => none
  | k, c :: r => if 10 ≤ k then none else if 128 ≤ c.toNat then (scan7 (k + 1) r).map (fun p => (c.toNat % 128 + 128 * p.1, p.2 + 1)) else
    if (0 < k ∧ c.toNat = 0) ∨ (k = 9 ∧ 1 < c.toNat) then none else some (c.toNat, 1)
def numOf (bs : List UInt8) : Option (Nat × Nat) := scan7 0 bs
theorem scan7_put : ∀ (k n : Nat) (t : List UInt8), k ≤ 9 → n < 2 ^ (64 - 7 * k) → (0 < k → 0 < n) → scan7 k (num7 n ++ t) = some (n, (num7 n).length) := by
  intro k n t hk hn h0
  induction n using Nat.strongRecOn generalizing k with
  | _ n ih =>
    by_cases h : n < 128
    · rw [num7_lt h]
      have e : (UInt8.ofNat n).toNat = n := by have := u8n (k := n) (by omega); omega
      have h9 : k = 9 → ¬ 1 < n := by intro hk9 h1; subst hk9; simp at hn; omega
      simp only [List.cons_append, List.nil_append, scan7, e]
      rw [if_neg (by omega), if_neg (by omega), if_neg (by omega)]; rfl
    · rw [num7_ge (by omega)]
      have e : (UInt8.ofNat (n % 128 + 128)).toNat = n % 128 + 128 := by have := u8n (k := n % 128 + 128) (by omega); omega
      have hk8 : k ≤ 8 := by
        rcases Nat.lt_or_ge k 9 with h9 | h9
        · omega
        · have : k = 9 := by omega
          subst this; simp at hn; omega
      have hd : n / 128 < 2 ^ (64 - 7 * (k + 1)) := by
        rw [Nat.div_lt_iff_lt_mul (by omega)]
        have : 2 ^ (64 - 7 * (k + 1)) * 128 = 2 ^ (64 - 7 * k) := by
          rw [show (128 : Nat) = 2 ^ 7 by rfl, ← Nat.pow_add]; congr 1; omega
        omega
      simp only [List.cons_append, scan7, e]
      rw [if_neg (by omega), if_pos (by omega), ih (n / 128) (by omega) (k + 1) (by omega) hd (fun _ => by omega)]
      simp only [Option.map_some, List.length_cons, Option.some.injEq, Prod.mk.injEq, e]
      exact ⟨by omega, trivial⟩
theorem scan7_got : ∀ (bs : List UInt8) (k n s : Nat), scan7 k bs = some (n, s) → bs.take s = num7 n ∧ s ≤ bs.length ∧ n < 2 ^ (64 - 7 * k) ∧ (0 < k → 0 < n) ∧ 1 ≤ s ∧ k ≤ 9
  | [], k, n, s, h => by simp [scan7] at h
  | c :: r, k, n, s, h => by
    simp only [scan7] at h
    by_cases h10 : 10 ≤ k
    · rw [if_pos h10] at h; cases h
    · rw [if_neg h10] at h
      by_cases hc : 128 ≤ c.toNat
      · rw [if_pos hc] at h
        cases hs : scan7 (k + 1) r with
        | none => rw [hs] at h; cases h
        | some p =>
          obtain ⟨n', s'⟩ := p
          rw [hs] at h
          simp only [Option.map_some, Option.some.injEq, Prod.mk.injEq] at h
          obtain ⟨rfl, rfl⟩ := h
          obtain ⟨h1, h2, h3, h4, h5, h6⟩ := scan7_got r (k + 1) n' s' hs
          have hc2 := c.toNat_lt
          have h7 := h4 (by omega)
          have hp : 2 ^ (64 - 7 * (k + 1)) * 128 = 2 ^ (64 - 7 * k) := by
            rw [show (128 : Nat) = 2 ^ 7 by rfl, ← Nat.pow_add]; congr 1; omega
          refine ⟨?_, by simp; omega, by omega, fun _ => by omega, by omega, by omega⟩
          rw [num7_ge (by omega), List.take_succ_cons, h1, show (c.toNat % 128 + 128 * n') / 128 = n' by omega, show (c.toNat % 128 + 128 * n') % 128 + 128 = c.toNat by omega]
          simp
      · rw [if_neg hc] at h
        by_cases hb : (0 < k ∧ c.toNat = 0) ∨ (k = 9 ∧ 1 < c.toNat)
        · rw [if_pos hb] at h; cases h
        · rw [if_neg hb] at h
          simp only [Option.some.injEq, Prod.mk.injEq] at h
          obtain ⟨rfl, rfl⟩ := h
          refine ⟨?_, by simp, ?_, fun _ => by omega, by omega, by omega⟩
          · rw [num7_lt (by omega)]; simp
          · by_cases h9 : k = 9
            · subst h9; simp; omega
            · exact Nat.lt_of_lt_of_le (show c.toNat < 2 ^ 7 by simpa using (by omega : c.toNat < 128)) (Nat.pow_le_pow_right (by omega) (by omega))
theorem numOf_put (n : Nat) (hn : n < 2 ^ 64) (t : List UInt8) : numOf (num7 n ++ t) = some (n, (num7 n).length) := scan7_put 0 n t (by omega) (by simpa using hn) (fun h => by omega)
theorem numOf_got {bs : List UInt8} {n s : Nat} (h : numOf bs = some (n, s)) : bs.take s = num7 n ∧ s ≤ bs.length ∧ n < 2 ^ 64 ∧ 1 ≤ s := by
  obtain ⟨h1, h2, h3, _, h5, _⟩ := scan7_got bs 0 n s h
  exact ⟨h1, h2, by simpa using h3, h5⟩

/-- what is read so far -/
def acc7 : List UInt8 → Nat
  | [] => 0
  | b :: r => b.toNat % 128 + 128 * acc7 r
theorem acc7_lt (l : List UInt8) : acc7 l < 128 ^ l.length := by
  induction l with
  | nil => simp [acc7]
  | cons b r ih => simp only [acc7, List.length_cons, Nat.pow_succ]; omega
theorem acc7_snoc (l : List UInt8) (b : UInt8) : acc7 (l ++ [b]) = acc7 l + 128 ^ l.length * (b.toNat % 128) := by
  induction l with
  | nil => simp [acc7]
  | cons c r ih => simp only [List.cons_append, acc7, ih, List.length_cons, Nat.pow_succ]; grind
theorem scan7_go (bs : List UInt8) (k : Nat) (hk : k ≤ bs.length) (h : ∀ i b, i < k → bs[i]? = some b → 128 ≤ b.toNat) (h10 : k ≤ 10) :
    numOf bs = (scan7 k (bs.drop k)).map fun p => (acc7 (bs.take k) + 128 ^ k * p.1, k + p.2) := by
  induction k with
  | zero => simp only [List.drop_zero, List.take_zero, acc7]; unfold numOf; cases scan7 0 bs <;> simp
  | succ k ih =>
    rw [ih (by omega) (fun i b hi hb => h i b (by omega) hb) (by omega)]
    have hlt : k < bs.length := by omega
    rw [List.drop_eq_getElem_cons hlt]
    have hc := h k bs[k] (by omega) (List.getElem?_eq_getElem hlt)
    simp only [scan7]
    rw [if_neg (by omega), if_pos hc, Option.map_map]
    congr 1
    funext p
    simp only [Function.comp]
    rw [take_snoc bs k hlt, acc7_snoc, List.length_take, Nat.min_eq_left (by omega), Nat.pow_succ]
    simp only [Prod.mk.injEq]
    constructor
    · grind
    · omega
theorem orU (n y : Nat) (hn : n < 2 ^ 64) (hy : y < 2 ^ 64) : bits .or .u64 (n : Int) (y : Int) = ((n ||| y : Nat) : Int) := by
  have h : n ||| y < 2 ^ 64 := Nat.or_lt_two_pow hn hy
  have h1 : (BitVec.ofInt 64 (n : Int) ||| BitVec.ofInt 64 (y : Int)).toNat = n ||| y := by
    rw [BitVec.toNat_or, BitVec.toNat_ofInt, BitVec.toNat_ofInt]
    have e1 : ((n : Int) % ((2 ^ 64 : Nat) : Int)).toNat = n := by rw [Int.emod_eq_of_lt (by omega) (by omega)]; simp
    have e2 : ((y : Int) % ((2 ^ 64 : Nat) : Int)).toNat = y := by rw [Int.emod_eq_of_lt (by omega) (by omega)]; simp
    rw [e1, e2]
  show IntKind.u64.wrap (((BitVec.ofInt 64 (n : Int) ||| BitVec.ofInt 64 (y : Int)).toNat : Nat) : Int) = _
  rw [h1, IntKind.wrap_u64]
  omega
theorem andNot128 (a : Nat) (h : a < 256) : bits .andNot .u8 (a : Int) 128 = ((a % 128 : Nat) : Int) := by
  have key : ∀ a : Fin 256, bits .andNot .u8 ((a : Nat) : Int) 128 = ((a.1 % 128 : Nat) : Int) := by decide +kernel
  exact key ⟨a, h⟩

/-- one byte more -/
theorem step7 (n c k : Nat) (hk : k ≤ 9) (hn : n < 128 ^ k) (hc : c < 256) (h9 : k = 9 → c < 2) :
    bits .or .u64 (n : Int) (IntKind.u64.wrap (bits .andNot .u8 (c : Int) 128 * 2 ^ min (Int.toNat (7 * (k : Int))) IntKind.u64.bits)) = ((n + 128 ^ k * (c % 128) : Nat) : Int) := by
  have e7 : min (Int.toNat (7 * (k : Int))) IntKind.u64.bits = 7 * k := by
    have : Int.toNat (7 * (k : Int)) = 7 * k := by omega
    rw [this]; show min (7 * k) 64 = 7 * k; omega
  have e128 : 128 ^ k = 2 ^ (7 * k) := by rw [show (128 : Nat) = 2 ^ 7 by rfl, ← Nat.pow_mul]
  have hlt : c % 128 * 2 ^ (7 * k) < 2 ^ 64 := by
    by_cases h : k = 9
    · subst h; have := h9 rfl; have : c % 128 ≤ 1 := by omega
      simp; omega
    · have h1 : 2 ^ (7 * k) ≤ 2 ^ 56 := Nat.pow_le_pow_right (by omega) (by omega)
      have h2 : c % 128 * 2 ^ (7 * k) ≤ 127 * 2 ^ 56 := Nat.mul_le_mul (by omega) h1
      omega
  have hn2 : n < 2 ^ (7 * k) := by rw [← e128]; exact hn
  have hn3 : n < 2 ^ 64 := Nat.lt_of_lt_of_le hn2 (Nat.pow_le_pow_right (by omega) (by omega))
  rw [andNot128 c hc, e7]
  have e2 : ((c % 128 : Nat) : Int) * 2 ^ (7 * k) = ((c % 128 * 2 ^ (7 * k) : Nat) : Int) := by push_cast; rfl
  rw [e2, IntKind.wrap_u64]
  have e3 : ((c % 128 * 2 ^ (7 * k) : Nat) : Int) % 18446744073709551616 = ((c % 128 * 2 ^ (7 * k) : Nat) : Int) := Int.emod_eq_of_lt (by omega) (by omega)
  rw [e3, orU _ _ hn3 hlt]
  congr 1
  rw [e128, Nat.or_comm, Nat.mul_comm (c % 128), ← Nat.two_pow_add_eq_or_of_lt hn2]
  omega

theorem number_runs {R : Nat → Prop} (b : Value) (bs : List UInt8) (w : World) (hb : RB w R b bs) (hs : bs.length ≤ 1000000) :
    Runs Try.prog 31 #[b] w fun v w' => v = (match numOf bs with
      | some (n, s) => .tuple #[.int .u64 n, .int .i64 s, .int .i64 0]
      | none => .tuple #[.int .u64 0, .int .i64 0, .int .i64 3]) ∧ Ext w w' := by
  obtain ⟨A0, c0, rfl, hl0, hb⟩ := hb
  refine Runs.of_vc cx_ok [0, 2, 3, 4, 5, 6, 11, 12, 13, 14, 27, 41] [.v _] Try.func31 rfl rfl rfl (Holds.nil _) ?_
  obtain ⟨m, hm⟩ : ∃ m, m = min bs.length 10 := ⟨_, rfl⟩
  refine OpT.sliceR (m := m) Try.underlying22 Try.sizeOf5 rfl rfl rfl hb (by rw [bR_length]; exact hl0.1) (by have := hl0.1; split <;> omega) (by split <;> omega) fun A1 r1 => ?_
  refine Lands.v (Holds.nil _) ?_
  rw [show (Int.toNat 0) = 0 from rfl, List.drop_zero] at r1
  refine vLoop_mk (σ := Nat × Int) (fun q => [(2, .v (.int .u64 q.2)), (11, .v (.slice A1 m (c0 - 0))), (12, .v (.int .i64 m)), (13, .v (.int .i64 q.1))]) (fun _ => [])
    (fun q w' => Ext w w' ∧ q.1 ≤ m ∧ (∀ i b, i < q.1 → bs[i]? = some b → 128 ≤ b.toNat) ∧ (q.1 ≤ 9 → q.2 = (acc7 (bs.take q.1) : Int))) (fun q => m - q.1) (0, 0) (fun _ => ⟨rfl, rfl⟩)
    ⟨⟨rfl, rfl, rfl, rfl, trivial⟩, trivial, Ext.refl _, Nat.zero_le _, fun i b hi => absurd hi (Nat.not_lt_zero _), fun _ => rfl⟩ ?_
  rintro ⟨k, n⟩ w1 hh ⟨x1, hk, hall, hn⟩
  simp only at hk hall hn
  have hgo := scan7_go bs k (by omega) hall (by omega)
  refine And.intro (fun h => ?_) (fun h => ?_)
  · have hlt := of_decide_eq_true h
    simp only at hlt
    have hkb : k < bs.length := by omega
    have hn9 := hn (by omega)
    subst hn9
    have hc := bs[k].toNat_lt
    have hget : (bR bs)[k]? = some [.int .u8 bs[k].toNat] := by simp [bR, hkb]
    obtain ⟨a1, ha1, hR1, hrow⟩ := (r1.ext x1).at hget
    rw [List.drop_eq_getElem_cons hkb] at hgo
    refine OpT.indexAddr Try.underlying22 Try.sizeOf5 rfl rfl ha1 (by omega) ?_
    refine Lands.v (Holds.nil _) ?_
    refine OpT.load Try.isAgg5 rfl (hrow.cell 0 rfl) ?_
    refine Lands.v (Holds.nil _) ?_
    have hac := acc7_lt (bs.take k)
    rw [List.length_take, Nat.min_eq_left (by omega)] at hac
    have hsn := acc7_snoc (bs.take k) bs[k]
    rw [← take_snoc bs k hkb, List.length_take, Nat.min_eq_left (by omega)] at hsn
    refine vsd (by rw [andNot128 _ hc]; simp only [inKind]; omega) ?_
    refine vsd (by simp only [inKind]; omega) ?_
    refine vsd (by omega) ?_
    refine And.intro (fun h2 => ?_) (fun h2 => ?_)
    · have hc1 := of_decide_eq_true h2
      refine vsd (by simp only [inKind]; omega) ?_
      refine Exists.intro (k + 1, bits .or .u64 (acc7 (bs.take k) : Int) (IntKind.u64.wrap (bits .andNot .u8 (bs[k].toNat : Int) 128 * 2 ^ min (Int.toNat (7 * (k : Int))) IntKind.u64.bits))) ⟨by simp only; omega, ⟨rfl, rfl, rfl, rfl, trivial⟩, trivial, x1, by simp only; omega, ?_, fun h9 => ?_⟩
      · intro i b hi hb
        rcases Nat.lt_succ_iff_lt_or_eq.1 hi with h1 | rfl
        · exact hall i b h1 hb
        · rw [List.getElem?_eq_getElem hkb] at hb; cases hb; omega
      · simp only at h9 ⊢
        rw [step7 _ _ k (by omega) hac hc (by omega), hsn]
    · have hc1 := of_decide_eq_false h2
      simp only [scan7] at hgo
      rw [if_neg (by omega), if_neg (by omega)] at hgo
      refine And.intro (fun h3 => ?_) (fun h3 => ?_)
      · simp only [sel, Bool.or_eq_true, Bool.and_eq_true, Bool.not_eq_true', Bool.not_eq_false', decide_eq_true_eq, decide_eq_false_iff_not, Bool.or_eq_false_iff, Bool.and_eq_false_iff, Bool.and_false, Bool.or_false, Bool.and_true, Bool.or_true, Bool.true_and, Bool.false_or, Bool.true_or, Bool.false_and, Bool.false_eq_true, Bool.true_eq_false, or_false, false_or, and_true, true_and, Bool.not_true, Bool.not_false] at h3
        refine ⟨?_, x1⟩
        rw [hgo, if_pos (by omega)]; rfl
      · simp only [sel, Bool.or_eq_true, Bool.and_eq_true, Bool.not_eq_true', Bool.not_eq_false', decide_eq_true_eq, decide_eq_false_iff_not, Bool.or_eq_false_iff, Bool.and_eq_false_iff, Bool.and_false, Bool.or_false, Bool.and_true, Bool.or_true, Bool.true_and, Bool.false_or, Bool.true_or, Bool.false_and, Bool.false_eq_true, Bool.true_eq_false, or_false, false_or, and_true, true_and, Bool.not_true, Bool.not_false] at h3
        refine vsd (by simp only [inKind]; omega) ?_
        refine ⟨?_, x1⟩
        rw [hgo, if_neg (by omega)]
        simp only [Option.map_some]
        have hs7 := step7 _ _ k (by omega) hac hc (by omega)
        rw [show bs[k].toNat % 128 = bs[k].toNat by omega] at hs7
        rw [hs7]; rfl
  · have hge := of_decide_eq_false h
    simp only at hge
    have hkm : k = m := by omega
    refine ⟨?_, x1⟩
    have : scan7 k (bs.drop k) = none := by
      rcases Nat.lt_or_ge bs.length 10 with h1 | h1
      · rw [List.drop_eq_nil_of_le (by omega)]; rfl
      · cases hd : bs.drop k with
        | nil => rfl
        | cons c r => simp only [scan7]; rw [if_pos (by omega)]
    rw [hgo, this]; rfl
end Go.Proofs.Ytcjkodcamkcljaa

