/-
  OctetPrefix of layer 1: how many bytes a number has; no number's bytes begin another one's.
-/
import Derived.Test.YtcjkodcamkcljaaO9
namespace Go.Proofs.Ytcjkodcamkcljaa
open Go Go.RowKit Go.Proofs.Bw
set_option linter.unusedVariables false
set_option linter.unusedSimpArgs false

def st7 (m : Nat) : Nat := if m = 0 then 0 else (num7 m).length
theorem st7_first (n : Nat) : 1 + st7 (n / 128) = (num7 n).length := by
  unfold st7
  by_cases h : n < 128
  · rw [if_pos (by omega), num7_lt h]; rfl
  · rw [if_neg (by omega), num7_ge (n := n) (by omega), List.length_cons]; omega
theorem st7_step (m : Nat) (h : 0 < m) : 1 + st7 (m / 128) = st7 m := by
  rw [st7_first, st7, if_neg (by omega)]
theorem take7 (a b k : Nat) (ha : a < 2 ^ 64) (hb : b < 2 ^ 64) (hk : k = min (num7 a).length (num7 b).length) : (num7 a).take k = (num7 b).take k ↔ a = b := by
  constructor
  · intro h
    have key : ∀ a b, a < 2 ^ 64 → b < 2 ^ 64 → num7 a = (num7 b).take (num7 a).length → a = b := by
      intro a b ha hb h
      have e : num7 b = num7 a ++ (num7 b).drop (num7 a).length := by
        conv => lhs; rw [← List.take_append_drop (num7 a).length (num7 b), ← h]
      have h1 := numOf_put a ha ((num7 b).drop (num7 a).length)
      rw [← e] at h1
      have h2 := numOf_put b hb []
      rw [List.append_nil, h1] at h2
      injection h2 with h2
      injection h2
    rcases Nat.le_total (num7 a).length (num7 b).length with h1 | h1
    · rw [Nat.min_eq_left h1] at hk
      subst hk
      rw [List.take_length] at h
      exact key a b ha hb h
    · rw [Nat.min_eq_right h1] at hk
      subst hk
      rw [List.take_length] at h
      exact (key b a hb ha h.symm).symm
  · intro h; rw [h]
theorem OctetPrefix_runs {R : Nat → Prop} (a b : Nat) (ha : a < 2 ^ 64) (hb64 : b < 2 ^ 64) (tl : Value) (bs : List UInt8) (w : World) (hb : RB w R tl bs) (hs : bs.length ≤ 140737488355328) :
    Runs Try.prog 4 #[.int .u64 a, .int .u64 b, tl] w fun v w' => v = .bool true ∧ Ext w w' := by
  have hb0 := hb
  obtain ⟨A0, c0, rfl, hl0, hb1⟩ := hb
  refine Runs.of_vc cx_ok [0, 1, 2, 6, 7, 8, 9, 10, 11, 12, 15, 24, 52] [.v _, .v _, .v _] Try.func4 rfl rfl rfl (Holds.nil _) ?_
  refine And.intro (fun h => ?_) (fun h => ?_)
  · refine vcS (works_runs _) (Holds.nil _) fun w1 x1 hh1 => ?_
    exact ⟨rfl, x1⟩
  have hle := of_decide_eq_false h
  refine vcE (Put_lit _ a rfl ha w) (Holds.nil _) ?_
  rintro _ w1 x1 hh1 ⟨A1, c1, rfl, o1⟩
  refine vcE (Put_lit _ b rfl hb64 w1) (Holds.nil _) ?_
  rintro _ w2 x2 hh2 ⟨A2, c2, rfl, o2⟩
  have la := num7_len a ha
  have lb := num7_len b hb64
  refine vsd (by omega) ?_
  refine vLoop_mk (σ := Nat × Nat) (fun q => [(0, .v (.int .u64 a)), (1, .v (.int .u64 b)), (2, .v (.slice A0 bs.length c0)), (7, .v (.slice A1 (num7 a).length c1)), (8, .v (.slice A2 (num7 b).length c2)), (9, .v (.int .i64 q.1)), (10, .v (.int .u64 q.2))]) (fun _ => [])
    (fun q w' => Ext w2 w' ∧ q.1 + st7 q.2 = (num7 a).length) (fun q => q.2) (1, a / 128) (fun _ => ⟨rfl, rfl⟩)
    ⟨⟨rfl, rfl, rfl, rfl, rfl, rfl, by rw [← shr7]; rfl, trivial⟩, trivial, Ext.refl _, st7_first a⟩ ?_
  rintro ⟨q, m⟩ w3 hh ⟨x3, hq⟩
  simp only at hq
  refine And.intro (fun h2 => ?_) (fun h2 => ?_)
  · have hm := of_decide_eq_true h2
    simp only at hm
    have hst := st7_step m (by omega)
    refine vsd (by simp only [inKind]; omega) ?_
    refine vsd (by omega) ?_
    exact Exists.intro (q + 1, m / 128) ⟨by simp only; omega, ⟨rfl, rfl, rfl, rfl, rfl, rfl, by rw [← shr7]; rfl, trivial⟩, trivial, x3, by simp only; omega⟩
  have hm := of_decide_eq_false h2
  simp only at hm
  have hm0 : m = 0 := by omega
  subst hm0
  have hq1 : q = (num7 a).length := by simpa [st7] using hq
  subst hq1
  refine vDrw_mk [] [0, 1, 2, 3, 4, 5, 6, 7, 8, 9, 10, 11, 12, 13, 14, 15, 16, 17, 18] rfl fun w4 x4 hh4 => ?_
  have o1' := o1.ext (x2.trans (x3.trans x4))
  have o2' := o2.ext (x3.trans x4)
  have l1 := o1.le
  have l2 := o2.le
  rw [bR_length] at l1 l2
  obtain ⟨k, hk⟩ : ∃ k : Nat, k = min (num7 a).length (num7 b).length := ⟨_, rfl⟩
  have hkk : (if ((num7 b).length : Int) < (num7 a).length then ((num7 b).length : Int) else (num7 a).length) = (k : Int) := by
    subst hk; split <;> omega
  refine Exists.intro _ (And.intro (fun w' x hh _ => OpT.slice Try.underlying22 Try.sizeOf5 rfl rfl rfl (by rw [hkk]; omega) ⟨rfl, rfl⟩) ?_)
  have r1 : Rd w4 _ 1 (if c1 = Int.toNat 0 then A1 else A1.map (·.add (Int.toNat 0 * 1))) (bR ((num7 a).take k)) := Rd.pre (t := (num7 a).drop k) (by rw [List.take_append_drop]; exact o1'.rd.cut (c := c1) (by rw [bR_length]; omega) (Int.toNat 0))
  have r2 : Rd w4 _ 1 (if c2 = Int.toNat 0 then A2 else A2.map (·.add (Int.toNat 0 * 1))) (bR ((num7 b).take k)) := Rd.pre (t := (num7 b).drop k) (by rw [List.take_append_drop]; exact o2'.rd.cut (c := c2) (by rw [bR_length]; omega) (Int.toNat 0))
  have e1 : ((num7 a).take k).length = k := by rw [List.length_take]; omega
  have e2 : ((num7 b).take k).length = k := by rw [List.length_take]; omega
  have hk2 : (if ((num7 b).length : Int) < (num7 a).length then ((num7 b).length : Int) else (num7 a).length).toNat - Int.toNat 0 = k := by rw [hkk]; simp
  refine Exists.intro (.string (strOf ((num7 a).take k))) (And.intro (fun w' x hh _ => OpT.bytesStr Try.underlying22 Try.underlying5 Try.underlying9 rfl (r1.ext x) (hk2.trans e1.symm) ⟨rfl, rfl⟩) ?_)
  refine Exists.intro _ (And.intro (fun w' x hh _ => OpT.slice Try.underlying22 Try.sizeOf5 rfl rfl rfl (by rw [hkk]; omega) ⟨rfl, rfl⟩) ?_)
  refine Exists.intro (.string (strOf ((num7 b).take k))) (And.intro (fun w' x hh _ => OpT.bytesStr Try.underlying22 Try.underlying5 Try.underlying9 rfl (r2.ext x) (hk2.trans e2.symm) ⟨rfl, rfl⟩) ?_)
  have hiff : strOf ((num7 a).take k) = strOf ((num7 b).take k) ↔ (a : Int) = (b : Int) := by
    constructor
    · intro h
      have h5 : (num7 a).take k = (num7 b).take k := by
        have := congrArg (fun s : ByteArray => s.data.toList) h
        simpa [strOf] using this
      have := (take7 a b k ha hb64 hk).1 h5
      omega
    · intro h
      rw [(take7 a b k ha hb64 hk).2 (by omega)]
  refine And.intro (fun h3 => ?_) (fun _ => ?_)
  · exact absurd h3 (by simp [sel, hiff])
  refine OpT.buildOwn (cs := #[]) (css := []) .nil Try.underlying22 Try.sizeOf5 Try.zeroValue5 rfl (by kernel_rfl) rfl (fun r hr => by cases hr) rfl rfl fun w5 g5 e5 x5 z5 o5 => ?_
  refine Lands.v (Holds.nil _) ?_
  refine OpT.appendR el5 Try.underlying22 rfl rfl o5 (o1'.ext x5).rd rfl (bR_length _).symm (bR_len _) (bR_ones _) (List.nil_append _) (n' := (num7 a).length) (bR_length _) (by rw [bR_length]; omega) x5.size fun w6 A6 c6 m6 o6 => ?_
  have x6 := x5.own o5 (Nat.le_refl _) m6
  refine Lands.v (Holds.nil _) ?_
  refine OpT.appendR el5 Try.underlying22 rfl rfl o6 (hb1.ext (x1.trans (x2.trans (x3.trans (x4.trans x6))))) (bR_length _).symm (bR_length _).symm (bR_len _) (bR_ones _) (bR_append _ _).symm (n' := (num7 a ++ bs).length) (bR_length _) (by rw [bR_length, List.length_append]; omega) x6.size fun w7 A7 c7 m7 o7 => ?_
  have x7 := x6.own o6 (Nat.le_refl _) m7
  refine Lands.v (Holds.nil _) ?_
  refine vcE (New_runs _ (num7 a ++ bs) w7 (OwnR.rb' o7) (by rw [List.length_append]; omega)) (Holds.nil _) ?_
  rintro _ w8 x8 hh8 ⟨gr, rfl, hgr, ar⟩
  have er : ((⟨num7 a ++ bs, 0, 0, 0⟩ : Rdr).read 0 fun bs => numR bs 18446744073709551615 0) = (⟨num7 a ++ bs, (num7 a).length, 0, 0⟩, a) := by
    have := read_put (bs := num7 a ++ bs) (at_ := 0) (n := a) (most := 18446744073709551615) (sp := 0) (t := bs) rfl ha (by omega)
    rwa [Nat.zero_add] at this
  refine vyes rfl ?_
  refine (Number_lit gr 18446744073709551615 _ _ a er w8 ar (by omega) (fun k hk => by have := ar.choose_spec.choose_spec.1.lt; omega) ⟨by rw [List.length_append]; omega, by simp⟩).mono ?_
  rintro _ w9 ⟨rfl, m9, ar9⟩
  refine Lands.v (Holds.nil _) ?_
  refine vyes (by simp [sel]; rfl) ?_
  have el : (((num7 a ++ bs).length : Int) - ((num7 a).length : Int) = bs.length) := by rw [List.length_append]; omega
  have hL := Left_runs gr _ w9 ar9 ⟨by simp only [List.length_append]; omega, by simp⟩
  dsimp only at hL
  rw [el] at hL
  refine vcS hL (Holds.nil _) fun w10 x10 hh10 => ?_
  refine vyes (by simp [sel]; rfl) ?_
  refine vcS (works_runs _) (Holds.nil _) fun w11 x11 hh11 => ?_
  have y7 := x1.trans (x2.trans (x3.trans (x4.trans x7)))
  exact ⟨by simp [sel]; rfl, (((y7.trans x8).upd m9 (by have := x7.size; have := y7.size; omega)).trans x10).trans x11⟩
end Go.Proofs.Ytcjkodcamkcljaa

