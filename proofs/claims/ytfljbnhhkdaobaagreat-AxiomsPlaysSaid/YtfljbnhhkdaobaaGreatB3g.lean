/-
  The sample: all infos.
-/
import Derived.Test.YtfljbnhhkdaobaaGreatB0
import Derived.Test.YtfljbnhhkdaobaaGreatB2g
import Derived.Test.YtfljbnhhkdaobaaGreatA8
namespace Go.Proofs.YtfljbnhhkdaobaaGreat
open Go Go.RowKit Go.Proofs.Bw
set_option linter.unusedVariables false
set_option linter.unusedSimpArgs false
def inf2 : List Inf := numL ++ paiL
def inf3 : List Inf := inf2 ++ lisL
def infosL : List Inf := inf3 ++ madL
set_option maxRecDepth 20000 in
theorem Infos_8 (w : World) : Runs Tryz.prog 48 #[] w fun v w' => Ext w w' ∧ ∃ (A : Option Addr) (c : Nat), v = .slice A infosL.length c ∧ ∃ lo, w.heap.size ≤ lo ∧ OwnE encInf w' lo 36 (fun k => w.heap.size ≤ k ∧ k < lo) A c infosL := by
  refine Runs.of_vc cx_ok [0] [] Tryz.func48 rfl rfl rfl (Holds.nil _) ?_
  refine vcV (numbers_8 w) (Holds.nil w) fun v1 w1 x1 z1 hh1 p1 => ?_
  obtain ⟨A1, c1, rfl, lo1, hlo1, o1⟩ := p1
  have q1 : lo1 ≤ w1.heap.size := by
    obtain ⟨a, cs, ha, _⟩ := o1.sl.at (i := 0) (by decide)
    have := o1.block ha
    omega
  refine vcV (pairs_8 w1) hh1 fun v2 w2 x2 z2 hh2 p2 => ?_
  obtain ⟨A2, c2, rfl, lo2, hlo2, o2⟩ := p2
  refine OpT.appendL (E := encInf) elInf Tryz.underlying22 Tryz.underlying22 rfl rfl rfl rfl (l3 := inf2) rfl rfl o1 x2 o2.sl (fun k hk _ => .inr ?_) (fun k hk => hk.2) (x1.trans x2) ⟨hlo1, by omega⟩ hh2 trivial (by decide) fun w3 A3 c3 y3 z3 o3 hh3 => ?_
  · rcases hk.1 with h | h
    · omega
    · omega
  refine vcV (lists_8 w3) hh3 fun v4 w4 x4 z4 hh4 p4 => ?_
  obtain ⟨A4, c4, rfl, lo4, hlo4, o4⟩ := p4
  refine OpT.appendL (E := encInf) elInf Tryz.underlying22 Tryz.underlying22 rfl rfl rfl rfl (l3 := inf3) rfl rfl o3 x4 o4.sl (fun k hk _ => .inr ?_) (fun k hk => hk.2) (y3.trans x4) ⟨hlo1, by omega⟩ hh4 trivial (by decide) fun w5 A5 c5 y5 z5 o5 hh5 => ?_
  · rcases hk.1 with h | h
    · omega
    · omega
  refine vcV (made_8 w5) hh5 fun v6 w6 x6 z6 hh6 p6 => ?_
  obtain ⟨A6, c6, rfl, lo6, hlo6, o6⟩ := p6
  refine OpT.appendL (E := encInf) elInf Tryz.underlying22 Tryz.underlying22 rfl rfl rfl rfl (l3 := infosL) rfl rfl o5 x6 o6.sl (fun k hk _ => .inr ?_) (fun k hk => hk.2) (y5.trans x6) ⟨hlo1, by omega⟩ hh6 trivial (by decide) fun w7 A7 c7 y7 z7 o7 hh7 => ?_
  · rcases hk.1 with h | h
    · omega
    · omega
  exact ⟨y7, A7, c7, rfl, lo1, hlo1, o7⟩
end Go.Proofs.YtfljbnhhkdaobaaGreat

/-
  The sample: the program's environment of it.
-/
namespace Go.Proofs.YtfljbnhhkdaobaaGreat
open Go Go.RowKit Go.Proofs.Bw
set_option linter.unusedVariables false
set_option linter.unusedSimpArgs false
/-! names, sorted in a way that can be computed -/
def insS (x : List UInt8) : List (List UInt8) → List (List UInt8)
  | [] => [x]
  | y :: r => if x ≤ y then x :: y :: r else y :: insS x r
def isrt : List (List UInt8) → List (List UInt8)
  | [] => []
  | x :: r => insS x (isrt r)
theorem insS_perm (x : List UInt8) : ∀ l, (insS x l).Perm (x :: l)
  | [] => List.Perm.refl _
  | y :: r => by
    unfold insS
    split
    · exact List.Perm.refl _
    · exact ((insS_perm x r).cons y).trans (List.Perm.swap x y r)
theorem isrt_perm : ∀ l, (isrt l).Perm l
  | [] => List.Perm.refl _
  | x :: r => (insS_perm x (isrt r)).trans ((isrt_perm r).cons x)
theorem insS_sorted (x : List UInt8) : ∀ l : List (List UInt8), l.Pairwise (· ≤ ·) → (insS x l).Pairwise (· ≤ ·)
  | [], _ => List.pairwise_singleton _ _
  | y :: r, h => by
    unfold insS
    rw [List.pairwise_cons] at h
    split
    · rename_i hxy
      refine List.pairwise_cons.2 ⟨fun z hz => ?_, List.pairwise_cons.2 h⟩
      rcases List.mem_cons.1 hz with rfl | hz
      · exact hxy
      · exact bl_trans hxy (h.1 z hz)
    · rename_i hxy
      refine List.pairwise_cons.2 ⟨fun z hz => ?_, insS_sorted x r h.2⟩
      rcases List.mem_cons.1 ((insS_perm x r).mem_iff.1 hz) with rfl | hz
      · rcases List.le_total y z with h1 | h1
        · exact h1
        · exact absurd h1 hxy
      · exact h.1 z hz
theorem isrt_sorted : ∀ l, (isrt l).Pairwise (· ≤ ·)
  | [] => List.Pairwise.nil
  | x :: r => insS_sorted x _ (isrt_sorted r)
theorem srt_isrt (l : List (List UInt8)) : srt l = isrt l :=
  List.Perm.eq_of_pairwise (le := (· ≤ ·)) (fun a b _ _ h1 h2 => List.le_antisymm h1 h2) (srt_sorted l) (isrt_sorted l) ((List.mergeSort_perm l _).trans (isrt_perm l).symm)
def nmsF (t : T) : List ByteArray := (if mayT t = true then Lib.compact (isrt (names t)) else []).map strOf
theorem nms_F : nms = nmsF := funext fun t => by unfold nms nmsT nmsF; rw [srt_isrt]
def namesEF (l xs : List Inf) (t : T) : Int := firstB (thereE l xs) (nmsF t)
def checkBF (l xs : List Inf) (i : Nat) (x : Inf) : Int :=
  if nameB x.name = false ∨ (findI l x.name).isSome = true ∨ nameIn (xs.take i) x.name = true then 5
  else if x.kind < 1 ∨ 6 < x.kind ∨ badNums x = true then 1
  else if x.params < 0 ∨ 4 < x.params then 8
  else if firstB (closedE x.params.toNat) (infT x) ≠ 0 then firstB (closedE x.params.toNat) (infT x)
  else firstB (namesEF l (if valB x.kind = true then xs.take i else xs)) (infT x)
theorem namesE_F : namesE = namesEF := by funext l xs t; unfold namesE namesEF; rw [nms_F]
theorem checkB_F : checkB = checkBF := by funext l xs i x; unfold checkB checkBF; rw [namesE_F]
def checksF (l xs : List Inf) : List Inf → Nat → Int
  | [], _ => 0
  | x :: r, i => if checkBF l xs i x ≠ 0 then checkBF l xs i x else checksF l xs r (i + 1)
theorem checks_F (l xs : List Inf) : ∀ r i, checksB l xs r i = checksF l xs r i
  | [], i => by unfold checksB checksF; rfl
  | x :: r, i => by unfold checksB checksF; rw [checkB_F, checks_F l xs r (i + 1)]
def addEF (l xs : List Inf) : Int := if 4096 < l.length + xs.length then 4 else checksF l xs xs 0
theorem addE_F (l xs : List Inf) : addE l xs = addEF l xs := by unfold addE addEF; rw [checks_F]
def heightBF (l : List Inf) (t : T) : Int := (nmsF t).foldl (fun n s => max n (getI l s).height) 0
theorem heightB_F : heightB = heightBF := by funext l t; unfold heightB heightBF; rw [nms_F]
def addOneF (l : List Inf) (x : Inf) : Inf := { x with height := if x.kind = 2 then 1 + heightBF l x.val else 0, val := valI x }
theorem addOne_F : addOne = addOneF := by funext l x; unfold addOne addOneF heightI; rw [heightB_F]
def addAllF (l xs : List Inf) : List Inf := xs.foldl (fun l x => l ++ [addOneF l x]) l
theorem addAll_F : addAll = addAllF := by funext l xs; unfold addAll addAllF; rw [addOne_F]
def smpL (i : Nat) : List Inf := addAll [] (infosL.take i)
def SL : List Inf := smpL 20
theorem smp4 : addE (smpL 0) (infosL.take 4) = 0 := by rw [addE_F]; unfold smpL; rw [addAll_F]; decide +kernel
theorem smp7 : addE (smpL 4) ((infosL.take 7).drop 4) = 0 := by rw [addE_F]; unfold smpL; rw [addAll_F]; decide +kernel
theorem smp11 : addE (smpL 7) ((infosL.take 11).drop 7) = 0 := by rw [addE_F]; unfold smpL; rw [addAll_F]; decide +kernel
theorem smp_k : ∀ k : Fin 9, addE (smpL (11 + k.val)) [infosL.getD (11 + k.val) noI] = 0 := by simp only [addE_F]; unfold smpL; rw [addAll_F]; decide +kernel
theorem addAll_app (l xs ys : List Inf) : addAll l (xs ++ ys) = addAll (addAll l xs) ys := by unfold addAll; rw [List.foldl_append]
theorem smpL4 : addL (smpL 0) (infosL.take 4) = smpL 4 := by unfold addL; rw [if_pos smp4]; rfl
theorem smpL7 : addL (smpL 4) ((infosL.take 7).drop 4) = smpL 7 := by
  unfold addL; rw [if_pos smp7]; unfold smpL; rw [← addAll_app]; rfl
theorem smpL11 : addL (smpL 7) ((infosL.take 11).drop 7) = smpL 11 := by
  unfold addL; rw [if_pos smp11]; unfold smpL; rw [← addAll_app]; rfl
theorem smp_one {i : Nat} (h1 : 11 ≤ i) (h2 : i < infosL.length) : addE (smpL i) [infosL[i]] = 0 := by
  have h3 : i < 20 := h2
  have h := smp_k ⟨i - 11, by omega⟩
  have e : 11 + (i - 11) = i := by omega
  simp only [e] at h
  rwa [List.getD_eq_getElem?_getD, List.getElem?_eq_getElem h2] at h
theorem smpL_one {i : Nat} (h1 : 11 ≤ i) (h2 : i < infosL.length) : addL (smpL i) [infosL[i]] = smpL (i + 1) := by
  unfold addL; rw [if_pos (smp_one h1 h2)]; unfold smpL; rw [← addAll_app, List.take_succ_eq_append_getElem h2]
theorem smp_rls : ∀ x ∈ infosL, x.rules.length ≤ 1000 := by
  have h : infosL.all (fun x => decide (x.rules.length ≤ 1000)) = true := by decide +kernel
  intro x hx
  have := List.all_eq_true.1 h x hx
  simpa using this
theorem New_X (w : World) (X : Nat → Prop) : Runs Tryz.prog 47 #[] w fun v w' => Ext w w' ∧ ∃ e m, v = .pointer (some ⟨e, 0, none⟩) ∧ EX w' X w.heap.size e m none 0 [] :=
  (New_runs w).mono fun v w' ⟨x, e, m, h1, h2⟩ => ⟨x, e, m, h1, h2.box, by
    obtain ⟨es, q1, q2⟩ := h2.map
    refine ⟨es, q1, ?_⟩
    cases es with
    | nil => exact q2
    | cons a r => exact q2.elim, h2.own, h2.ne, h2.lo_, fun k hk => ⟨hk.2, hk.1.1⟩, h2.hts, h2.few, h2.rls⟩
set_option maxHeartbeats 2000000 in
set_option maxRecDepth 20000 in
theorem Sample_runs (w : World) (X : Nat → Prop) (hX : ∀ k, X k → k < w.heap.size) : Runs Tryz.prog 14 #[] w fun v w' => Ext w w' ∧ ∃ e m A c, v = .tuple #[.pointer (some ⟨e, 0, none⟩), .bool true] ∧ EX w' X w.heap.size e m A c SL := by
  refine Runs.of_vc cx_ok [0, 1, 2, 3, 4, 25, 29, 39] [] Tryz.func14 rfl rfl rfl (Holds.nil _) ?_
  refine vcV (New_X w X) (Holds.nil w) fun v1 w1 x1 z1 hh1 p1 => ?_
  obtain ⟨e, m, rfl, hE1⟩ := p1
  have r1 := hE1.lt
  refine vcV (Infos_8 w1) hh1 fun v2 w2 x2 z2 hh2 p2 => ?_
  obtain ⟨B, bc, rfl, lo, hlo, o2⟩ := p2
  have hle := o2.le
  have hl20 : infosL.length = 20 := rfl
  have s2 : Sl encInf w2 (fun k => w1.heap.size ≤ k ∧ k < w2.heap.size) B infosL := o2.sl.mono fun k hk => ⟨by
    rcases hk.1 with h | h
    · exact h.1
    · omega, hk.2⟩
  clear o2
  refine OpT.sliceE (E := encInf) (i := 0) (j := 4) (m := (infosL.take 4).length) Tryz.underlying22 Tryz.sizeOf36 rfl rfl rfl (s2.take 4) (by rw [List.length_take]; omega) (by omega) rfl fun B4 s4 => ?_
  refine Lands.v hh2 ?_
  refine vcM (Add_x (X := X) e m none B4 0 _ (smpL 0) (infosL.take 4) w2 (hE1.ext x2) (fun k hk => by have := hX k hk; omega) s4 (fun k hk => ⟨⟨hk.2, fun hx => by have := hX k hx; have := hk.1; omega⟩, fun hm => by have := r1 k hm; have := hk.1; omega⟩) (by rw [List.length_take]; simp only [lenOk]; omega) (by rw [List.length_take]; omega) (fun x hx => smp_rls x (List.mem_of_mem_take hx))) hh2 trivial fun v3 w3 m3 z3 hh3 p3 => ?_
  obtain ⟨rfl, A3, c3, hE3, n3⟩ := p3
  rw [smpL4] at hE3
  rw [smp4]
  have r3 := hE3.lt
  have N3 : ∀ k, mine e m A3 k → k < w1.heap.size ∨ w2.heap.size ≤ k := fun k hk => (n3 k hk).imp (fun h => (r1 k h).2) id
  have s3 : Sl encInf w3 (fun k => w1.heap.size ≤ k ∧ k < w2.heap.size) B infosL := s2.mod m3 fun k hk hm => by have := r1 k hm; have := hk.1; omega
  refine vyes rfl ?_
  refine OpT.sliceE (E := encInf) (i := 4) (j := 7) (m := ((infosL.take 7).drop 4).length) Tryz.underlying22 Tryz.sizeOf36 rfl rfl rfl (s3.take 7) (by rw [List.length_take]; omega) (by omega) rfl fun B7 s7 => ?_
  refine Lands.v hh3 ?_
  refine vyes rfl ?_
  refine vcM (Add_x (X := X) e m A3 B7 c3 _ (smpL 4) ((infosL.take 7).drop 4) w3 hE3 (fun k hk => by have := hX k hk; omega) s7 (fun k hk => ⟨⟨by omega, fun hx => by have := hX k hx; have := hk.1; omega⟩, fun hm => by have := N3 k hm; have := hk.1; omega⟩) (by rw [List.length_drop, List.length_take]; simp only [lenOk]; omega) (by rw [List.length_drop, List.length_take]; omega) (fun x hx => smp_rls x (List.mem_of_mem_take (List.mem_of_mem_drop hx)))) hh3 trivial fun v4 w4 m4 z4 hh4 p4 => ?_
  obtain ⟨rfl, A4, c4, hE4, n4⟩ := p4
  rw [smpL7] at hE4
  rw [smp7]
  have r4 := hE4.lt
  have N4 : ∀ k, mine e m A4 k → k < w1.heap.size ∨ w2.heap.size ≤ k := fun k hk => by
    rcases n4 k hk with h | h
    · exact N3 k h
    · omega
  have s4 : Sl encInf w4 (fun k => w1.heap.size ≤ k ∧ k < w2.heap.size) B infosL := s3.mod m4 fun k hk hm => by have := N3 k hm; have := hk.1; omega
  refine vyes rfl ?_
  refine OpT.sliceE (E := encInf) (i := 7) (j := 11) (m := ((infosL.take 11).drop 7).length) Tryz.underlying22 Tryz.sizeOf36 rfl rfl rfl (s4.take 11) (by rw [List.length_take]; omega) (by omega) rfl fun B11 s11 => ?_
  refine Lands.v hh4 ?_
  refine vyes rfl ?_
  refine vcM (Add_x (X := X) e m A4 B11 c4 _ (smpL 7) ((infosL.take 11).drop 7) w4 hE4 (fun k hk => by have := hX k hk; omega) s11 (fun k hk => ⟨⟨by omega, fun hx => by have := hX k hx; have := hk.1; omega⟩, fun hm => by have := N4 k hm; have := hk.1; omega⟩) (by rw [List.length_drop, List.length_take]; simp only [lenOk]; omega) (by rw [List.length_drop, List.length_take]; omega) (fun x hx => smp_rls x (List.mem_of_mem_take (List.mem_of_mem_drop hx)))) hh4 trivial fun v5 w5 m5 z5 hh5 p5 => ?_
  obtain ⟨rfl, A5, c5, hE5, n5⟩ := p5
  rw [smpL11] at hE5
  rw [smp11]
  have N5 : ∀ k, mine e m A5 k → k < w1.heap.size ∨ w2.heap.size ≤ k := fun k hk => by
    rcases n5 k hk with h | h
    · exact N4 k h
    · omega
  have s5 : Sl encInf w5 (fun k => w1.heap.size ≤ k ∧ k < w2.heap.size) B infosL := s4.mod m5 fun k hk hm => by have := N4 k hm; have := hk.1; omega
  have M5 : Ext w w5 := by
    have M2 : Ext w w2 := x1.trans x2
    have M3 := M2.trans' m3 fun k hk hs => by have := r1 k hs; omega
    have M4 := M3.trans' m4 fun k hk hs => by have := r3 k hs; omega
    exact M4.trans' m5 fun k hk hs => by have := r4 k hs; omega
  refine Or.inl (And.intro (fun hx => nomatch (rfl).symm.trans hx) (fun _ => ?_))
  refine vLoop_upd (σ := Nat × Option Addr × Nat) [0, 1, 4, 26, 27, 28, 29, 30, 31, 32, 33, 34, 35, 36, 37, 38, 39] (fun s => [(4, .v (.int .i64 s.1))]) [] (fun _ => [])
    (fun s w' => Ext w w' ∧ w5.heap.size ≤ w'.heap.size ∧ 11 ≤ s.1 ∧ s.1 ≤ 20 ∧ EX w' X w.heap.size e m s.2.1 s.2.2 (smpL s.1) ∧ (∀ k, mine e m s.2.1 k → k < w1.heap.size ∨ w2.heap.size ≤ k) ∧ Sl encInf w' (fun k => w1.heap.size ≤ k ∧ k < w2.heap.size) B infosL) (fun s => 20 - s.1) (11, A5, c5) (fun _ => ⟨rfl, rfl⟩)
    ⟨(by repeat (first | exact trivial | refine And.intro rfl ?_)), (by repeat (first | exact trivial | refine And.intro rfl ?_)), (by repeat (first | exact trivial | refine And.intro rfl ?_)), (by repeat (first | exact trivial | refine And.intro rfl ?_)), M5, Nat.le_refl _, by omega, by omega, hE5, N5, s5⟩ ?_
  rintro ⟨i, Ai, ci⟩ w6 hh6 ⟨x6, z6, hi1, hi2, hE6, N6, s6⟩
  simp only at hi1 hi2 hE6 N6
  have r6 := hE6.lt
  refine Or.inl (And.intro (fun h => ?_) (fun h => ?_))
  · have hil : i < infosL.length := by have := of_decide_eq_true h; simp only at this; omega
    obtain ⟨a1, cs, ha1, hRa, hrow, hv⟩ := s6.at hil
    have e1 := smp_one hi1 hil
    have e2 := smpL_one hi1 hil
    have hxr := smp_rls _ (List.getElem_mem hil)
    generalize infosL[i] = x at *
    have hv0 : VI w6 _ cs x := hv
    have hv : VI w6 _ cs x := hv
    obtain ⟨ctx, cvx, rax, rcx, rfl, htyx, hvlx, hrux, hrlx, hokx⟩ := hv; obtain ⟨kxt, nxt, sxt, lsxt, tsxt, laxt, lcxt, taxt, tcxt, etyx, rfl, hkxt, hnxt, hsxt, hllxt, hltxt, hLxt, hTxt⟩ := htyx.inv; obtain ⟨kxv, nxv, sxv, lsxv, tsxv, laxv, lcxv, taxv, tcxv, evlx, rfl, hkxv, hnxv, hsxv, hllxv, hltxv, hLxv, hTxv⟩ := hvlx.inv
    refine OpT.indexAddr Tryz.underlying22 Tryz.sizeOf36 rfl rfl ha1 (by first | omega | (simp only [lenOk] at *; omega)) ?_; refine Lands.v hh6 ?_
    refine OpT.loadA Tryz.isAgg36 (by exact Tryz.sizeOf36) rfl hrow ?_; refine Lands.ret (s := .a [.v (.int .u8 x.kind), .v (.string x.name), .v (.int .i64 x.params), .v (.int .u8 kxt), .v (.int .i64 nxt), .v (.string sxt), .v (.slice laxt lsxt.length lcxt), .v (.slice taxt tsxt.length tcxt), .v (.int .u8 kxv), .v (.int .i64 nxv), .v (.string sxv), .v (.slice laxv lsxv.length lcxv), .v (.slice taxv tsxv.length tcxv), .v (.int .i64 x.height), .v (.string x.block), .v (.string x.of_), .v (.int .i64 x.fixed), .v (.int .i64 x.index), .v (.int .i64 x.no), .v (.int .i64 x.fields), .v (.int .i64 x.motives), .v (.int .i64 x.minors), .v (.slice rax x.rules.length rcx), .v (.int .i64 x.ctors), .v (.bool x.record)]) rfl rfl hh6 ?_
    refine OpT.buildE (E := encInf) (R := (fun k => w1.heap.size ≤ k ∧ k < w2.heap.size)) (vs := [_]) (l := [x]) Tryz.zeroValue36 (.cons rfl (.nil)) Tryz.underlying22 Tryz.sizeOf36 rfl rfl (Reps.cons hv0 (Reps.nil _ _ _)) rfl rfl hh6 fun w7 g7 e7 x7 z7 o7 hh7 => ?_
    refine vcM (Add_x (X := X) e m Ai _ ci 1 (smpL i) [x] w7 (hE6.ext x7) (fun k hk => by have := hX k hk; omega) o7.sl (fun k hk => ⟨⟨hk.2, fun hx => ?_⟩, fun hm => ?_⟩) (by simp [lenOk]) (by simp) (by simpa using hxr)) hh7 trivial fun v8 w8 m8 z8 hh8 p8 => ?_
    · have := hX k hx
      rcases hk.1 with h | h <;> omega
    · have := r6 k hm
      rcases hk.1 with h | h
      · have := N6 k hm; omega
      · omega
    obtain ⟨rfl, A8, c8, hE8, n8⟩ := p8
    rw [e2] at hE8
    rw [e1]
    have N8 : ∀ k, mine e m A8 k → k < w1.heap.size ∨ w2.heap.size ≤ k := fun k hk => by
      rcases n8 k hk with h | h
      · exact N6 k h
      · omega
    refine Or.inl (And.intro (fun hx => nomatch (rfl).symm.trans hx) (fun _ => ?_))
    refine vsd (by simp only [inKind]; omega) ?_
    exact Exists.intro ((i + 1, A8, c8)) ⟨by simp only; omega, esub_over (by repeat (first | exact trivial | refine And.intro rfl ?_)) (by repeat (first | exact trivial | refine And.intro rfl ?_)), hsub_over (by repeat (first | exact trivial | refine And.intro rfl ?_)) (by repeat (first | exact trivial | refine And.intro rfl ?_)), (x6.trans x7).trans' m8 (fun k hk hs => by have := r6 k hs; have := x1.size; omega), by omega, by omega, by omega, hE8, N8, (s6.ext x7).mod m8 fun k hk hm => by have := N6 k hm; have := hk.1; omega⟩
  · have hi : i = 20 := by have := of_decide_eq_false h; simp only at this; omega
    subst hi
    exact ⟨x6, e, m, Ai, ci, rfl, hE6⟩
end Go.Proofs.YtfljbnhhkdaobaaGreat
