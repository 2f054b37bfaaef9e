/-
  Pairs by their constructor: the plain law.
-/
import Derived.Test.YtfljbnhhkdaobaaGreatB4
import Derived.Test.YtfljbnhhkdaobaaGreatB3
namespace Go.Proofs.YtfljbnhhkdaobaaGreat
open Go Go.RowKit Go.Proofs.Bw
set_option linter.unusedVariables false
set_option linter.unusedSimpArgs false
theorem head_tCo (s : ByteArray) (ls : List L) : head (tCo s ls) = tCo s ls := head_no (by decide)
theorem args_tCo (s : ByteArray) (ls : List L) : spArgs (tCo s ls) = [] := spArgs_no (by decide)
theorem head_co (s : ByteArray) (ls : List L) (l : List T) : head (apT (tCo s ls) l) = tCo s ls := by rw [head_apT, head_tCo]
theorem args_co (s : ByteArray) (ls : List L) (l : List T) : spArgs (apT (tCo s ls) l) = l := by rw [spArgs_apT, args_tCo]; rfl
theorem recX_co (L0 : List Inf) (s : ByteArray) (ls : List L) (l : List T) : recX L0 (apT (tCo s ls) l) = getI L0 s := by unfold recX; rw [head_co]; rfl
end Go.Proofs.YtfljbnhhkdaobaaGreat

/-
  Recursors at constructors: the plain law.
-/
namespace Go.Proofs.YtfljbnhhkdaobaaGreat
open Go Go.RowKit Go.Proofs.Bw
set_option linter.unusedVariables false
set_option linter.unusedSimpArgs false
theorem nodes_tA (f x : T) : nodes (tA f x) = (nodes f && nodes x) := by
  rw [tA, nodes, nodess, nodess, nodess, show nodeB (.mk 4 0 ⟨#[]⟩ [] [f, x]) = true from rfl]; simp
theorem size_tA (f x : T) : size (tA f x) = 1 + size f + size x := by rw [tA, size, sizes, sizes, sizes]; omega
theorem depth_tA (f x : T) : depth (tA f x) = 1 + max (depth f) (depth x) := by rw [tA, depth, depths, depths, depths]; omega
theorem nodes_apT : ∀ (l : List T) (f : T), nodes (apT f l) = (nodes f && nodess l)
  | [], f => by rw [apT_nil, nodess]; simp
  | x :: l, f => by
    show nodes (apT (tA f x) l) = _
    rw [nodes_apT l, nodes_tA, nodess, Bool.and_assoc]
theorem size_apT : ∀ (l : List T) (f : T), size (apT f l) = size f + sizes l + l.length
  | [], f => by rw [apT_nil, sizes]; rfl
  | x :: l, f => by
    show size (apT (tA f x) l) = _
    rw [size_apT l, size_tA, sizes, List.length_cons]; omega
theorem depth_apT : ∀ (l : List T) (f : T), depth (apT f l) ≤ max (depth f) (depths l) + l.length
  | [], f => by rw [apT_nil, depths]; simp only [List.length_nil]; omega
  | x :: l, f => by
    show depth (apT (tA f x) l) ≤ _
    have := depth_apT l (tA f x)
    rw [depth_tA] at this
    rw [depths, List.length_cons]; omega
theorem depth_size (t : T) : depth t ≤ size t := by
  refine T.rec (motive_1 := fun t => depth t ≤ size t) (motive_2 := fun ts => depths ts ≤ sizes ts) ?_ ?_ ?_ t
  · intro k n s ls ts ih
    rw [depth, size]; omega
  · rw [depths]; omega
  · intro t r h1 h2
    rw [depths, sizes]; omega
theorem mayT_apT {f : T} {l : List T} (h1 : nodes f = true) (h2 : nodess l = true) (h3 : size f + sizes l + l.length ≤ 65536) (h4 : max (depth f) (depths l) + l.length ≤ 4096) : mayT (apT f l) = true :=
  (mayT_iff _).2 ⟨by rw [nodes_apT, h1, h2]; rfl, by rw [size_apT]; exact h3, Nat.le_trans (depth_apT l f) h4⟩
theorem nodess_mem : ∀ {l : List T}, nodess l = true → ∀ x ∈ l, nodes x = true
  | [], _, x, hx => by cases hx
  | y :: l, h, x, hx => by
    rw [nodess, Bool.and_eq_true] at h
    rcases List.mem_cons.1 hx with rfl | hx
    · exact h.1
    · exact nodess_mem h.2 x hx
theorem nodess_of : ∀ {l : List T}, (∀ x ∈ l, nodes x = true) → nodess l = true
  | [], _ => by rw [nodess]
  | y :: l, h => by rw [nodess, h y (by simp), nodess_of fun x hx => h x (by simp [hx])]; rfl
def okRl (o : Option Rl) (ls : List L) (f : Int) : Bool := match o with
  | none => false
  | some r => decide (r.f = f) && (decide (lvlE r.b ls = 0) && (nodes (lvlT r.b ls) && (decide (size (lvlT r.b ls) ≤ 200) && decide (T.k (lvlT r.b ls) = 5))))
def iotA (own fx : Int) (q p : List T) : List T := q.take own.toNat ++ p.drop fx.toNat ++ q.drop (own + 1).toNat
theorem nodess_may {s : ByteArray} {ls : List L} {q : List T} (h : mayT (apT (tCo s ls) q) = true) : nodess q = true := by
  have := may_nodes h
  rw [nodes_apT, Bool.and_eq_true] at this
  exact this.2
theorem T_k {t : T} (h : T.k t ≠ 4) : head t = t ∧ spArgs t = [] := by
  cases t with
  | mk k n s ls ts => exact ⟨head_no h, spArgs_no h⟩
theorem madB_co {s' : ByteArray} {p : List T} (h1 : (findI SL s').isSome = true) (h2 : (getI SL s').kind = 5) : madB SL (apT (tCo s' []) p) = true := by
  unfold madB
  rw [recX_co, head_co]
  show (decide ((3 : Int) = 3) && ((findI SL s').isSome && decide ((getI SL s').kind = 5))) = true
  rw [h1, h2]; rfl
theorem iot_co {s s' : ByteArray} {ls : List L} {q p : List T} {f own fx : Int}
    (hs : ((findI SL s).isSome, (getI SL s).kind, (getI SL s).params, ownN (getI SL s), (getI SL s).index) = (true, 6, (ls.length : Int), own, 0))
    (hc : ((findI SL s').isSome, (getI SL s').kind, (getI SL s').fixed) = (true, 5, fx))
    (hr : okRl ((getI SL s).rules.find? fun r => decide (r.c = (getI SL s').name)) ls f = true)
    (ht : mayT (apT (tCo s ls) q) = true) (hu : mayT (apT (tCo s' []) p) = true) (ho : own < q.length) (hp : (p.length : Int) = fx + f) (hf : 0 ≤ f) (hfx : 0 ≤ fx)
    (hz : sizes (iotA own fx q p) + (iotA own fx q p).length ≤ 65000) (hd : depths (iotA own fx q p) + (iotA own fx q p).length ≤ 3800) :
    ∃ V, T.k V = 5 ∧ iot SL (apT (tCo s ls) q) (apT (tCo s' []) p) = (apT V (iotA own fx q p), 0) ∧ mayT (apT V (iotA own fx q p)) = true := by
  simp only [Prod.mk.injEq] at hs hc
  obtain ⟨s1, s2, s3, s4, s5⟩ := hs
  obtain ⟨c1, c2, c3⟩ := hc
  have hrb : recB SL (apT (tCo s ls) q) = true := by
    unfold recB
    rw [recX_co, head_co, args_co]
    show (decide ((3 : Int) = 3) && ((findI SL s).isSome && (decide ((getI SL s).kind = 6) && (decide ((ls.length : Int) = (getI SL s).params) && decide (ownN (getI SL s) + (getI SL s).index < (q.length : Int)))))) = true
    rw [s1, s2, s3, s4, s5, decide_eq_true (show own + 0 < (q.length : Int) by omega)]; simp
  have hmb := madB_co (p := p) c1 c2
  have hR : iotR SL (apT (tCo s ls) q) (apT (tCo s' []) p) = (getI SL s).rules.find? fun r => decide (r.c = (getI SL s').name) := by
    unfold iotR; rw [recX_co, recX_co]
  unfold iot
  rw [if_neg (by rw [ht, hu]; decide), if_neg (by rw [hrb, hmb]; decide), hR]
  cases hq : (getI SL s).rules.find? fun r => decide (r.c = (getI SL s').name) with
  | none => rw [hq] at hr; cases hr
  | some r =>
    rw [hq] at hr
    unfold okRl at hr
    simp only [Bool.and_eq_true, decide_eq_true_eq] at hr
    obtain ⟨r1, r2, r3, r4, r5⟩ := hr
    have hl : T.ls' (head (apT (tCo s ls) q)) = ls := by rw [head_co]; rfl
    have hL : iotL SL (apT (tCo s ls) q) (apT (tCo s' []) p) r = iotA own fx q p := by
      unfold iotL iotA
      rw [recX_co, args_co, args_co, s4, s5, r1, show ((p.length : Int) - f).toNat = fx.toNat by omega, Int.add_zero]
    have hm : mayT (apT (lvlT r.b ls) (iotA own fx q p)) = true := by
      refine mayT_apT r3 (nodess_of fun x hx => ?_) (by omega) (by have := depth_size (lvlT r.b ls); omega)
      unfold iotA at hx
      rcases List.mem_append.1 hx with hx | hx
      · rcases List.mem_append.1 hx with hx | hx
        · exact nodess_mem (nodess_may ht) x (List.mem_of_mem_take hx)
        · exact nodess_mem (nodess_may hu) x (List.mem_of_mem_drop hx)
      · exact nodess_mem (nodess_may ht) x (List.mem_of_mem_drop hx)
    refine ⟨lvlT r.b ls, r5, ?_, hm⟩
    simp only [hl, hL]
    rw [args_co, recX_co, c3, r1, if_neg (fun h => h hp), if_neg (fun h => h r2)]
    unfold toldT toldE
    rw [hm]; rfl
theorem iot_much {s s' : ByteArray} {ls : List L} {q p : List T} {f own fx : Int}
    (hs : ((findI SL s).isSome, (getI SL s).kind, (getI SL s).params, ownN (getI SL s), (getI SL s).index) = (true, 6, (ls.length : Int), own, 0))
    (hc : ((findI SL s').isSome, (getI SL s').kind, (getI SL s').fixed) = (true, 5, fx))
    (hr : okRl ((getI SL s).rules.find? fun r => decide (r.c = (getI SL s').name)) ls f = true)
    (ht : mayT (apT (tCo s ls) q) = true) (hu : mayT (apT (tCo s' []) p) = true) (ho : own < q.length) (hp : (p.length : Int) ≠ fx + f) : iot SL (apT (tCo s ls) q) (apT (tCo s' []) p) = (tZ, 6) := by
  simp only [Prod.mk.injEq] at hs hc
  obtain ⟨s1, s2, s3, s4, s5⟩ := hs
  obtain ⟨c1, c2, c3⟩ := hc
  have hR : iotR SL (apT (tCo s ls) q) (apT (tCo s' []) p) = (getI SL s).rules.find? fun r => decide (r.c = (getI SL s').name) := by
    unfold iotR; rw [recX_co, recX_co]
  unfold iot
  rw [if_neg (by rw [ht, hu]; decide), hR]
  split
  · rfl
  cases hq : (getI SL s).rules.find? fun r => decide (r.c = (getI SL s').name) with
  | none => rfl
  | some r =>
    rw [hq] at hr
    unfold okRl at hr
    simp only [Bool.and_eq_true, decide_eq_true_eq] at hr
    simp only
    rw [args_co, recX_co, c3, hr.1, if_pos hp]
theorem iot_not {t u : T} (ht : mayT t = true) (hu : mayT u = true) (h : iotR SL t u = none) : iot SL t u = (tZ, 6) := by
  unfold iot
  rw [if_neg (by rw [ht, hu]; decide), h]
  split <;> rfl
theorem num_size : ∀ k, size (tNum k) = 2 * k + 1
  | 0 => by rw [tNum, tCo, size, sizes]
  | k + 1 => by rw [tNum, size_apT, sizes, sizes, num_size k, tCo, size, sizes]; simp only [List.length_cons, List.length_nil]; omega
theorem num_nodes : ∀ k, nodes (tNum k) = true
  | 0 => by decide +kernel
  | k + 1 => by rw [tNum, nodes_apT, nodess, nodess, num_nodes k]; decide +kernel
theorem num_depth (k : Nat) : depth (tNum k) ≤ 2 * k + 1 := by have := depth_size (tNum k); rw [num_size] at this; exact this
theorem num_may {k : Nat} (h : k ≤ 1000) : mayT (tNum k) = true := (mayT_iff _).2 ⟨num_nodes k, by rw [num_size]; omega, by have := num_depth k; omega⟩
theorem nrecS : ((findI SL sN__rec).isSome, (getI SL sN__rec).kind, (getI SL sN__rec).params, ownN (getI SL sN__rec), (getI SL sN__rec).index) = (true, 6, (([levN 3].length : Nat) : Int), 3, 0) := by unfold SL smpL; rw [addAll_F]; decide +kernel
theorem nzeroS : ((findI SL sN_zero).isSome, (getI SL sN_zero).kind, (getI SL sN_zero).fixed) = (true, 5, 0) := by unfold SL smpL; rw [addAll_F]; decide +kernel
theorem nsuccS : ((findI SL sN_succ).isSome, (getI SL sN_succ).kind, (getI SL sN_succ).fixed) = (true, 5, 0) := by unfold SL smpL; rw [addAll_F]; decide +kernel
theorem nrz : okRl ((getI SL sN__rec).rules.find? fun r => decide (r.c = (getI SL sN_zero).name)) [levN 3] 0 = true := by unfold SL smpL; rw [addAll_F]; decide +kernel
theorem nrs : okRl ((getI SL sN__rec).rules.find? fun r => decide (r.c = (getI SL sN_succ).name)) [levN 3] 1 = true := by unfold SL smpL; rw [addAll_F]; decide +kernel
def tRecN (c z s : T) (k : Nat) : T := apT (tCo sN__rec [levN 3]) [c, z, s, tNum k]
def nuL (c z s : T) : Nat → List T
  | 0 => [c, z, s]
  | k + 1 => [c, z, s, tNum k]
theorem iot_num {c z s : T} {k : Nat} (hk : k ≤ 100) (ht : mayT (tRecN c z s k) = true) (hz : size c + size z + size s ≤ 1000) : ∃ V, T.k V = 5 ∧ iot SL (tRecN c z s k) (tNum k) = (apT V (nuL c z s k), 0) ∧ mayT (apT V (nuL c z s k)) = true := by
  have d1 := depth_size c
  have d2 := depth_size z
  have d3 := depth_size s
  cases k with
  | zero =>
    have h := iot_co (q := [c, z, s, tNum 0]) (p := []) nrecS nzeroS nrz ht (by decide +kernel) (by simp) rfl (by omega) (by omega) (by simp only [iotA]; show sizes [c, z, s] + 3 ≤ 65000; simp only [sizes]; omega) (by simp only [iotA]; show depths [c, z, s] + 3 ≤ 3800; simp only [depths]; omega)
    exact h
  | succ k =>
    have e1 := num_size k
    have e2 := num_depth k
    have h := iot_co (q := [c, z, s, tNum (k + 1)]) (p := [tNum k]) nrecS nsuccS nrs ht (num_may (k := k + 1) (by omega)) (by simp) rfl (by omega) (by omega) (by simp only [iotA]; show sizes [c, z, s, tNum k] + 4 ≤ 65000; simp only [sizes]; omega) (by simp only [iotA]; show depths [c, z, s, tNum k] + 4 ≤ 3800; simp only [depths]; omega)
    exact h
theorem iot_numB {c z s : T} {k : Nat} (hk : k ≤ 100) (ht : mayT (tRecN c z s k) = true) : (iot SL (tRecN c z s k) (apT (tCo sN_succ []) [tNum k, tNum k])).2 = 6 := by
  have e1 := num_size k
  have e2 := num_depth k
  have hu : mayT (apT (tCo sN_succ []) [tNum k, tNum k]) = true := mayT_apT (by decide +kernel) (by rw [nodess, nodess, nodess, num_nodes]; rfl) (by simp only [sizes, tCo, size, List.length_cons, List.length_nil]; omega) (by simp only [depths, tCo, depth, List.length_cons, List.length_nil]; omega)
  rw [tRecN, iot_much nrecS nsuccS nrs ht hu (by simp) (by simp)]
end Go.Proofs.YtfljbnhhkdaobaaGreat
