/-
  Numbers as bytes: what Put and its reference compute.
-/
import Derived.Test.YtcjkodcamkcljaaO1
namespace Go.Proofs.Ytcjkodcamkcljaa
open Go Go.RowKit Go.Proofs.Bw
set_option linter.unusedVariables false
set_option linter.unusedSimpArgs false

/-- a number's bytes, with fuel -/
def num7f : Nat → Nat → List UInt8
  | 0, n => [UInt8.ofNat n]
  | k + 1, n => if n < 128 then [UInt8.ofNat n] else UInt8.ofNat (n % 128 + 128) :: num7f k (n / 128)
/-- a number's bytes -/
def num7 (n : Nat) : List UInt8 := num7f n n
theorem num7f_lt {n : Nat} (h : n < 128) (k : Nat) : num7f k n = [UInt8.ofNat n] := by cases k with
  | zero => rfl
  | succ k => rw [num7f, if_pos h]
theorem num7f_eq : ∀ (k l n : Nat), n ≤ k → n ≤ l → num7f k n = num7f l n := by
  intro k
  induction k with
  | zero => intro l n hk hl; rw [num7f_lt (by omega), num7f_lt (by omega)]
  | succ k ih =>
    intro l n hk hl
    by_cases hn : n < 128
    · rw [num7f_lt hn, num7f_lt hn]
    · cases l with
      | zero => omega
      | succ l => rw [num7f, num7f, if_neg hn, if_neg hn, ih l (n / 128) (by omega) (by omega)]
theorem num7_lt {n : Nat} (h : n < 128) : num7 n = [UInt8.ofNat n] := num7f_lt h n
theorem num7_ge {n : Nat} (h : 128 ≤ n) : num7 n = UInt8.ofNat (n % 128 + 128) :: num7 (n / 128) := by
  show num7f n n = _
  cases n with
  | zero => omega
  | succ k => rw [num7f, if_neg (by omega), num7f_eq k ((k + 1) / 128) _ (by omega) (Nat.le_refl _)]; rfl
theorem num7_len (n : Nat) (h : n < 2 ^ 64) : 1 ≤ (num7 n).length ∧ (num7 n).length ≤ 10 := by
  have step : ∀ k n, n < 2 ^ (7 * (k + 1)) → 1 ≤ (num7 n).length ∧ (num7 n).length ≤ k + 1 := by
    intro k
    induction k with
    | zero => intro n h; rw [num7_lt (by simpa using h)]; simp
    | succ k ih =>
      intro n h
      by_cases hn : n < 128
      · rw [num7_lt hn]; simp
      · rw [num7_ge (by omega)]
        have := ih (n / 128) (by rw [Nat.div_lt_iff_lt_mul (by omega)]; rw [show 7 * (k + 1 + 1) = 7 * (k + 1) + 7 by omega, Nat.pow_add] at h; exact h)
        simp only [List.length_cons]; omega
  exact step 9 n (Nat.lt_of_lt_of_le h (Nat.pow_le_pow_right (by omega) (by omega)))
theorem el5 : ElOk Try.prog 5 1 1 := ⟨⟨Try.t5, Try.t5.zero.get rfl, by kernel_rfl, rfl, rfl, rfl, rfl⟩, by omega⟩

theorem u8n {k : Nat} (h : k < 256) : ((UInt8.ofNat k).toNat : Int) = k := by
  rw [UInt8.toNat_ofNat', Nat.mod_eq_of_lt h]
theorem wrap8 (n : Nat) : IntKind.u8.wrap (n : Int) = ((n % 256 : Nat) : Int) := by rw [IntKind.wrap_u8]; omega
theorem or128 (a : Nat) (h : a < 256) : bits .or .u8 (a : Int) 128 = ((a % 128 + 128 : Nat) : Int) := by
  have key : ∀ a : Fin 256, bits .or .u8 ((a : Nat) : Int) 128 = ((a.1 % 128 + 128 : Nat) : Int) := by decide +kernel
  exact key ⟨a, h⟩
theorem shr7 (n : Nat) : (n : Int).fdiv (2 ^ min (Int.toNat 7) IntKind.u64.bits) = ((n / 128 : Nat) : Int) := by
  show (n : Int).fdiv (2 ^ 7) = _
  rw [Int.fdiv_eq_ediv_of_nonneg _ (by omega)]; omega
theorem rNumber_runs (n : Nat) (hn : n < 2 ^ 64) (w : World) : Runs Try.prog 26 #[.int .u64 n] w fun v w' => Ext w w' ∧ ∃ A c, v = .slice A (num7 n).length c ∧ OwnR w' w.heap.size 5 1 A c (bR (num7 n)) := by
  refine Runs.of_vc cx_ok [0, 2, 3, 5] [.v _] Try.func26 rfl rfl rfl (Holds.nil _) ?_
  refine vLoop_mk (σ := Nat × List UInt8 × Option Addr × Nat) (fun q => [(0, .v (.int .u64 q.1)), (3, .v (.slice q.2.2.1 q.2.1.length q.2.2.2))]) (fun _ => [])
    (fun q w' => Ext w w' ∧ q.1 < 2 ^ 64 ∧ q.2.1 ++ num7 q.1 = num7 n ∧ OwnR w' w.heap.size 5 1 q.2.2.1 q.2.2.2 (bR q.2.1)) (fun q => q.1) (n, [], none, 0) (fun _ => ⟨rfl, rfl⟩)
    ⟨⟨rfl, rfl, trivial⟩, trivial, Ext.refl _, hn, rfl, OwnR.nil _ _ _ _⟩ ?_
  rintro ⟨m, bs, A, c⟩ w1 hh ⟨x1, hm, he, ho⟩
  simp only at hm he ho
  have hl := num7_len n hn
  rw [← he, List.length_append] at hl
  have hl2 := num7_len m hm
  refine And.intro (fun h => ?_) (fun h => ?_)
  · have hge := of_decide_eq_true h
    simp only at hge
    have e8 : IntKind.u8.wrap (128 + (m : Int) % 128) = ((UInt8.ofNat (m % 128 + 128)).toNat : Int) := by rw [u8n (by omega), IntKind.wrap_u8]; omega
    refine vsd (by omega) ?_
    refine vsd (by simp only [inKind]; omega) ?_
    refine OpT.buildSlice (cs := #[.int .u8 (IntKind.u8.wrap (128 + (m : Int) % 128))]) (.cons rfl .nil) Try.underlying22 Try.sizeOf5 Try.zeroValue5 rfl (by kernel_rfl) fun w2 g e2 x2 z2 b2 => ?_
    have hh2 := hh.ext x2
    refine Lands.v hh2 ?_
    refine OpT.append1 el5 Try.underlying22 rfl rfl (ho.ext x2) b2 (by simp [bR]) rfl rfl (css' := bR (bs ++ [UInt8.ofNat (m % 128 + 128)])) (by rw [bR_append, e8]; rfl) (n' := (bs ++ [UInt8.ofNat (m % 128 + 128)]).length) (bR_length _) (by rw [bR_length, List.length_append]; simp; omega) (Nat.le_trans x1.size x2.size) fun w3 A3 c3 m3 ho3 => ?_
    have x3 := (x1.trans x2).own (ho.ext x2) (Nat.le_refl _) m3
    refine Lands.v (hh2.nil' rfl) ?_
    refine vsd (by simp only [inKind]; omega) ?_
    exact Exists.intro (m / 128, bs ++ [UInt8.ofNat (m % 128 + 128)], A3, c3) ⟨by simp only; omega, ⟨rfl, rfl, trivial⟩, trivial, x3, by simp only; omega, by simp only; rw [← he, num7_ge (n := m) (by omega), List.append_assoc]; rfl, ho3⟩
  · have hge := of_decide_eq_false h
    simp only at hge
    have e8 : IntKind.u8.wrap (m : Int) = ((UInt8.ofNat m).toNat : Int) := by rw [u8n (by omega), IntKind.wrap_u8]; omega
    rw [num7_lt (by omega)] at he
    refine OpT.buildSlice (cs := #[.int .u8 (IntKind.u8.wrap (m : Int))]) (.cons rfl .nil) Try.underlying22 Try.sizeOf5 Try.zeroValue5 rfl (by kernel_rfl) fun w2 g e2 x2 z2 b2 => ?_
    have hh2 := hh.ext x2
    refine Lands.v hh2 ?_
    refine OpT.append1 el5 Try.underlying22 rfl rfl (ho.ext x2) b2 (by simp [bR]) rfl rfl (css' := bR (num7 n)) (by rw [← he, bR_append, e8]; rfl) (n' := (num7 n).length) (bR_length _) (by rw [bR_length]; have := num7_len n hn; omega) (Nat.le_trans x1.size x2.size) fun w3 A3 c3 m3 ho3 => ?_
    have x3 := (x1.trans x2).own (ho.ext x2) (Nat.le_refl _) m3
    refine Lands.v (hh2.nil' rfl) ?_
    exact ⟨x3, A3, c3, rfl, ho3⟩
end Go.Proofs.Ytcjkodcamkcljaa

