import Derived.Test.YtnoghkpofpaeeaaEc
/-
  Infos that are kept beside an environment; what a list of infos is after some were added.
-/
namespace Go.Proofs.Ytnoghkpofpaeeaa
open Go Go.RowKit Go.Proofs.Bw
set_option linter.unusedVariables false
set_option linter.unusedSimpArgs false

def IX (w : World) (M : Nat → Prop) (lo : Nat) (A : Option Addr) (c : Nat) (l : List Inf) : Prop :=
  ∃ css, OwnR w lo 35 encInf.sz A c css ∧ Reps encInf w (fun k => (k < w.heap.size ∧ ¬ M k) ∧ ¬ ownOf A k) css l
section
variable {w w' : World} {M M' : Nat → Prop} {lo c : Nat} {A : Option Addr} {l : List Inf}
theorem IX.nil (w : World) (M : Nat → Prop) (lo : Nat) : IX w M lo none 0 [] := ⟨[], OwnR.nil _ _ _ _, Reps.nil _ _ _⟩
theorem IX.le (h : IX w M lo A c l) : lenOk l.length c := by
  obtain ⟨css, h1, h2⟩ := h
  have := h1.le
  rw [h2.1] at this
  exact this
theorem IX.own (h : IX w M lo A c l) : ∀ k, ownOf A k → lo ≤ k ∧ k < w.heap.size := by
  obtain ⟨css, h1, h2⟩ := h
  rintro k ⟨a, ha, rfl⟩
  exact h1.block ha
theorem IX.sl (h : IX w M lo A c l) : Sl encInf w (fun k => k < w.heap.size) A l := by
  obtain ⟨css, h1, h2⟩ := h
  refine (h2.mono fun k hk => hk.1.1).sl fun i r hi => ?_
  obtain ⟨a, h3, h4, h5⟩ := h1.rd i r hi
  exact ⟨a, h3, h4.2, h5⟩
theorem IX.mod {S : Nat → Prop} (h : IX w M lo A c l) (hm : Bw.Mod S w w') (hS : ∀ k, k < w.heap.size → S k → M k) (hMo : ∀ k, M k → ¬ ownOf A k) (hM : ∀ k, k < w.heap.size → M' k → M k) : IX w' M' lo A c l := by
  have ho := h.own
  obtain ⟨css, h1, h2⟩ := h
  have := hm.size
  exact ⟨css, h1.mod hm fun a ha hs => hMo _ (hS _ (ho _ ⟨a, ha, rfl⟩).2 hs) ⟨a, ha, rfl⟩, (h2.mod hm fun k hk hs => hk.1.2 (hS k hk.1.1 hs)).mono fun k hk => ⟨⟨by have := hk.1.1; omega, fun h => hk.1.2 (hM k hk.1.1 h)⟩, hk.2⟩⟩
theorem IX.ext (h : IX w M lo A c l) (hm : Ext w w') (hMo : ∀ k, M k → ¬ ownOf A k) : IX w' M lo A c l := h.mod hm (fun _ _ h => h.elim) hMo fun _ _ h => h
variable {P : Program} {e : Env} {K : Value → World → Prop} {d : Option Tmp} {t : TypeId} {pos : String} {af : Array Edge} {g' : Option (Nat × Bool)} {ρ : List Nat} {H : Heap} {k : SV → List Nat → Heap → World → Prop}
theorem OpT.appendI {x y : Operand} {st tx : TypeId} {bytes m n cc n' : Nat} {B : Option Addr} {R2 : Nat → Prop} {l2 l3 : List Inf} (hel : ElOk P 35 encInf.sz bytes) (ht : P.underlying st = some (.slice 35)) (htx : P.underlying tx = some (.slice 35))
    (hx : evalO e x = some (.slice A n c)) (hy : evalO e y = some (.slice B m cc)) (hn : n = l.length) (hm : m = l2.length) (h3 : l ++ l2 = l3) (hn' : n' = l3.length) (hown : IX w M lo A c l) (hR : Sl encInf w R2 B l2)
    (hR2 : ∀ k, R2 k → k < w.heap.size → ¬ M k ∧ ¬ ownOf A k) (hlo : lo ≤ w.heap.size) (hM : ∀ k, M k → k < w.heap.size)
    (hH : Holds ρ H w) (hρ : ∀ i, i < ρ.length → ¬ ownOf A (adr ρ i))
    (h63 : l3.length * bytes ≤ 140737488355328 ∧ l3.length ≤ 9223372036854775807)
    (h : ∀ w' A' c', Bw.Mod (ownOf A) w w' → w.heap.size ≤ w'.heap.size → IX w' M lo A' c' l3 → (∀ k, ownOf A' k → ownOf A k ∨ w.heap.size ≤ k) → Holds ρ H w' → k (.v (.slice A' n' c')) ρ H w') :
    OpT P e w ⟨d, .call ⟨.builtin .append, #[x, y], #[st, tx]⟩, t, pos, af, g'⟩ (Lands ρ k) := by
  subst hn; subst hm; subst h3; subst hn'
  obtain ⟨css, h1, h2⟩ := hown
  obtain ⟨news, q1, q2⟩ := hR.small.reps
  have hl1 := h2.1
  have hl2 := q1.1
  have hs := q2.src (P := P) (tx := tx) htx q1.lens q1.ones cc
  rw [hl2] at hs
  have h63' : (css.length + news.length) * bytes ≤ 140737488355328 ∧ css.length + news.length ≤ 9223372036854775807 := by
    rw [hl1, hl2]; rw [List.length_append] at h63; exact h63
  refine OpT.appendS' (news := news) (m := l2.length) hel ht (by rw [hl1]; exact hx) hy h1 hs hl2.symm q1.lens h63' hlo fun w' A' c' m' o' f' => ?_
  have hlen : (css ++ news).length = (l ++ l2).length := by rw [List.length_append, List.length_append, hl1, hl2]
  rw [hlen]
  have hH' : Holds ρ H w' := hH.mod m' hρ
  refine Lands.v hH' (h w' A' c' m' m'.size ⟨css ++ news, o', ?_⟩ f' hH')
  have r1 : Reps encInf w (fun k => (k < w.heap.size ∧ ¬ M k) ∧ ¬ ownOf A k) (css ++ news) (l ++ l2) := h2.append (q1.mono fun k hk => ⟨⟨hk.2, (hR2 k hk.1 hk.2).1⟩, (hR2 k hk.1 hk.2).2⟩)
  refine (r1.mod m' fun k hk => hk.2).mono fun k hk => ⟨⟨Nat.lt_of_lt_of_le hk.1.1 m'.size, hk.1.2⟩, fun h4 => ?_⟩
  rcases f' k h4 with h5 | h5
  · exact hk.2 h5
  · have := hk.1.1; omega
end
/-! what has been added -/
def envL (l : List Inf) (i : Nat) : List Inf := (l.take i).foldl (fun L x => addL L [x]) []
theorem envL_succ (l : List Inf) (i : Nat) (h : i < l.length) : envL l (i + 1) = addL (envL l i) [l[i]] := by
  unfold envL; rw [List.take_succ_eq_append_getElem h, List.foldl_append]; rfl
theorem addL_one {L : List Inf} {x : Inf} (h : addE L [x] = 0) : addL L [x] = L ++ [addOne L x] := by unfold addL; rw [if_pos h]; rfl
theorem addL_no {L : List Inf} {x : Inf} (h : addE L [x] ≠ 0) : addL L [x] = L := by unfold addL; rw [if_neg h]
theorem addE_one {L : List Inf} {x : Inf} (h : addE L [x] = 0) : checkB L [x] 0 x = 0 := by
  unfold addE at h
  by_cases h1 : 4096 < L.length + [x].length
  · rw [if_pos h1] at h; cases h
  · rw [if_neg h1] at h
    exact checks_ok [x] 0 h 0 (by simp)
/-- names are unlike, and heights are above those of what a value names -/
structure Good (L : List Inf) : Prop where
  nd : (L.map (·.name)).Nodup
  h0 : ∀ x ∈ L, x.kind ≠ 2 → x.height = 0
  h1 : ∀ x ∈ L, x.kind = 2 → x.height = 1 + heightB L x.val
  ns : ∀ x ∈ L, x.kind = 2 → ∀ s ∈ nms x.val, (findI L s).isSome = true
theorem Good.nil : Good [] := ⟨by simp, by simp, by simp, by simp⟩
theorem findI_get {L : List Inf} (h : (L.map (·.name)).Nodup) {x : Inf} (hx : x ∈ L) : findI L x.name = some x := by
  induction L with
  | nil => cases hx
  | cons y r ih =>
    unfold findI
    rw [List.find?_cons]
    rw [List.map_cons, List.nodup_cons] at h
    rcases List.mem_cons.1 hx with rfl | hr
    · simp
    · have : y.name ≠ x.name := fun he => h.1 (by rw [he]; exact List.mem_map.2 ⟨x, hr, rfl⟩)
      rw [decide_eq_false this]
      exact ih h.2 hr
theorem findI_snoc {L : List Inf} {s : ByteArray} (h : (findI L s).isSome = true) (y : Inf) : findI (L ++ [y]) s = findI L s := by
  unfold findI at *
  rw [List.find?_append]
  cases hq : List.find? (fun x => decide (x.name = s)) L with
  | none => rw [hq] at h; cases h
  | some z => rfl
theorem heightB_snoc {L : List Inf} {t : T} (h : ∀ s ∈ nms t, (findI L s).isSome = true) (y : Inf) : heightB (L ++ [y]) t = heightB L t := by
  have key : ∀ (q : List ByteArray) (n : Int), (∀ s ∈ q, (findI L s).isSome = true) → q.foldl (fun n s => max n (getI (L ++ [y]) s).height) n = q.foldl (fun n s => max n (getI L s).height) n := by
    intro q
    induction q with
    | nil => intro n _; rfl
    | cons s r ih =>
      intro n hq
      rw [List.foldl_cons, List.foldl_cons, ih _ fun s hs => hq s (List.mem_cons_of_mem _ hs)]
      unfold getI
      rw [findI_snoc (hq s List.mem_cons_self)]
  exact key _ _ h
theorem checkB_last {L xs : List Inf} {i : Nat} {x : Inf} (h : checkB L xs i x = 0) : firstB (namesE L (if valB x.kind = true then xs.take i else xs)) (infT x) = 0 := by
  unfold checkB at h
  split at h
  · cases h
  split at h
  · cases h
  split at h
  · cases h
  split at h
  · rename_i h1; exact absurd h h1
  · exact h
theorem val_names {L : List Inf} {x : Inf} (h : checkB L [x] 0 x = 0) (hk : x.kind = 2) : ∀ s ∈ nms x.val, (findI L s).isSome = true := by
  have hv : valB x.kind = true := by rw [hk]; rfl
  have h1 := checkB_last h
  rw [if_pos hv] at h1
  have h2 := firstB_zero h1 x.val (by unfold infT; rw [if_pos hv]; simp)
  intro s hs
  have h3 := firstB_zero h2 s hs
  unfold thereE at h3
  by_cases h4 : (findI L s).isSome = false ∧ nameIn (List.take 0 [x]) s = false
  · rw [if_pos h4] at h3; cases h3
  · cases hq : (findI L s).isSome with
    | true => rfl
    | false => exact absurd ⟨hq, rfl⟩ h4
theorem Good.add {L : List Inf} {x : Inf} (h : Good L) (ha : addE L [x] = 0) : Good (L ++ [addOne L x]) := by
  have hc := addE_one ha
  have hf := (checkB_fresh hc).1
  have hn : ∀ y ∈ L, y.name ≠ x.name := findI_none.1 (by
    cases hq : findI L x.name with
    | none => rfl
    | some z => rw [hq] at hf; cases hf)
  have hmem : ∀ y ∈ L ++ [addOne L x], y ∈ L ∨ y = addOne L x := fun y hy => by simpa using hy
  refine ⟨?_, ?_, ?_, ?_⟩
  · rw [List.map_append, List.nodup_append]
    refine ⟨h.nd, by simp, ?_⟩
    intro a ha b hb
    simp only [List.map_cons, List.map_nil, List.mem_singleton] at hb
    subst hb
    obtain ⟨y, hy, rfl⟩ := List.mem_map.1 ha
    exact hn y hy
  · intro y hy hk
    rcases hmem y hy with hy | rfl
    · exact h.h0 y hy hk
    · have hk : x.kind ≠ 2 := hk
      show heightI L x = 0
      unfold heightI; rw [if_neg hk]
  · intro y hy hk
    rcases hmem y hy with hy | rfl
    · rw [heightB_snoc (h.ns y hy hk)]; exact h.h1 y hy hk
    · have hk : x.kind = 2 := hk
      have hv : valI x = x.val := by unfold valI; rw [if_pos (by rw [hk]; rfl)]
      show heightI L x = 1 + heightB (L ++ [addOne L x]) (valI x)
      rw [hv, heightB_snoc (val_names hc hk)]
      unfold heightI; rw [if_pos hk]
  · intro y hy hk s hs
    rcases hmem y hy with hy | rfl
    · rw [findI_snoc (h.ns y hy hk s hs)]; exact h.ns y hy hk s hs
    · have hk : x.kind = 2 := hk
      have hv : valI x = x.val := by unfold valI; rw [if_pos (by rw [hk]; rfl)]
      have hs : s ∈ nms x.val := by rw [← hv]; exact hs
      rw [findI_snoc (val_names hc hk s hs)]; exact val_names hc hk s hs
theorem Good.one {L : List Inf} (h : Good L) (x : Inf) : Good (addL L [x]) := by
  by_cases ha : addE L [x] = 0
  · rw [addL_one ha]; exact h.add ha
  · rw [addL_no ha]; exact h
theorem Good.env (l : List Inf) : ∀ i, i ≤ l.length → Good (envL l i)
  | 0, _ => by simpa [envL] using Good.nil
  | i + 1, h => by rw [envL_succ l i h]; exact (Good.env l i (Nat.le_of_succ_le h)).one _
theorem rlsS_refl : ∀ l, rlsS l l = true
  | [] => rfl
  | r :: l => by unfold rlsS; rw [rlsS_refl l]; simp [rlB, sameB_refl]
theorem infB_refl (x : Inf) : infB x x = true := by
  unfold infB; rw [rlsS_refl, sameB_refl, sameB_refl]; simp [hdB]
theorem findI_added {L : List Inf} {x : Inf} (ha : addE L [x] = 0) : findI (addL L [x]) x.name = some (addOne L x) := by
  have hf := (checkB_fresh (addE_one ha)).1
  rw [addL_one ha]
  unfold findI at *
  rw [List.find?_append]
  cases hq : List.find? (fun y => decide (y.name = x.name)) L with
  | some z => rw [hq] at hf; cases hf
  | none => simp [addOne]
end Go.Proofs.Ytnoghkpofpaeeaa


/-
  EnvStays.
-/
namespace Go.Proofs.Ytnoghkpofpaeeaa
open Go Go.RowKit Go.Proofs.Bw
set_option linter.unusedVariables false
set_option linter.unusedSimpArgs false

theorem fewB_len {l : List Inf} (h : fewB l = true) : l.length ≤ 40 := by
  unfold fewB at h
  have := (Bool.and_eq_true _ _ ▸ h).1
  simp at this
  omega
theorem fewB_rls {l : List Inf} (h : fewB l = true) : ∀ x ∈ l, x.rules.length ≤ 1000 := by
  intro x hx
  unfold fewB at h
  have h1 := (Bool.and_eq_true _ _ ▸ h).2
  have h2 := List.all_eq_true.1 h1 x hx
  unfold fewI at h2
  simp at h2
  omega
theorem envL_len (l : List Inf) : ∀ i, i ≤ l.length → (envL l i).length ≤ i
  | 0, _ => by simp [envL]
  | i + 1, h => by
    rw [envL_succ l i h]
    have := envL_len l i (Nat.le_of_succ_le h)
    by_cases ha : addE (envL l i) [l[i]] = 0
    · rw [addL_one ha]; simp; exact this
    · rw [addL_no ha]; omega
set_option maxHeartbeats 4000000 in
set_option maxRecDepth 20000 in
theorem stays_runs {R : Nat → Prop} (A0 : Option Addr) (l : List Inf) (c0 : Nat) (w : World) (hl : Sl encInf w R A0 l) (hB : lenOk l.length c0) (hR : ∀ k, R k → k < w.heap.size) :
    Runs Try.prog 3 #[.slice A0 l.length c0] w fun v w' => v = .bool true ∧ Ext w w' := by
  refine Runs.of_vc (ρ := []) cx_ok [0, 2, 3, 4, 5, 6, 7, 8, 9, 10, 11, 12, 15, 21, 42, 91, 101, 105, 128, 132, 140, 146, 160] [.v _] Try.func3 rfl rfl rfl (Holds.nil w) ?_
  refine vcZ (Few_runs A0 l c0 w hl hB) (Holds.nil w) fun w1 x1 z1 hh1 => ?_
  refine Or.inl (And.intro (fun h => ?_) (fun h => ?_))
  · refine vcZ (works_runs w1) hh1 fun w2 x2 z2 hh2 => ?_
    exact ⟨rfl, x1.trans x2⟩
  have hfew : fewB l = true := by simpa using h
  have hlen := fewB_len hfew
  have hrls := fewB_rls hfew
  refine vcV (New_x w1 (ownOf none) fun k ⟨a, ha, _⟩ => by cases ha) hh1 fun v2 w2 x2 z2 hh2 p2 => ?_
  obtain ⟨e, m, rfl, hE2⟩ := p2
  refine vLoop_upd (σ := Nat × Option Addr × Nat) [2, 4, 5, 6, 7, 8, 9, 10, 11, 18, 19, 20, 21, 22, 23, 24, 25, 26, 27, 28, 29, 30, 31, 32, 33, 34, 35, 36, 37, 38, 39, 40, 41, 42, 43, 44, 45, 46, 47, 48, 49, 50, 51, 52, 53, 54, 55, 56, 57, 58, 59, 60, 61, 62, 63, 64, 65, 66, 67, 68, 69, 70, 71, 72, 73, 74, 75, 76, 77, 78, 79, 80, 81, 82, 83, 84, 85, 86, 87, 88, 89, 90, 91, 92, 93, 94, 95, 96, 97, 98, 99, 100, 101, 102, 103, 104, 105, 106, 107, 108, 109, 110, 111, 112, 113, 114, 115, 116, 117, 118, 119, 120, 121, 122, 123, 124, 125, 126, 127, 128] (fun s => [(4, .v (.slice s.2.1 (envL l s.1).length s.2.2)), (5, .v (.int .i64 s.1))]) [] (fun _ => [])
    (fun s w' => Ext w w' ∧ s.1 ≤ l.length ∧ w2.heap.size ≤ w'.heap.size ∧ ∃ A c, EX w' (ownOf s.2.1) w1.heap.size e m A c (envL l s.1) ∧ IX w' (mine e m A) w1.heap.size s.2.1 s.2.2 (envL l s.1) ∧ (∀ k, mine e m A k → ¬ ownOf s.2.1 k)) (fun s => l.length - s.1) (0, none, 0) (fun _ => ⟨rfl, rfl⟩)
    ⟨(by repeat (first | exact trivial | refine And.intro rfl ?_)), (by repeat (first | exact trivial | refine And.intro rfl ?_)), (by repeat (first | exact trivial | refine And.intro rfl ?_)), (by repeat (first | exact trivial | refine And.intro rfl ?_)), x1.trans x2, Nat.zero_le _, Nat.le_refl _, none, 0, hE2, IX.nil _ _ _, fun k _ ⟨a, ha, _⟩ => by cases ha⟩ ?_
  rintro ⟨i, Ai, ci⟩ w3 hh3 ⟨x3, hi, z3, A, c, hE, hI, hd⟩
  have hG := Good.env l i hi
  refine Or.inl (And.intro (fun h => ?_) (fun h => ?_))
  · have hil : i < l.length := by have := of_decide_eq_true h; omega
    obtain ⟨a1, cs, ha1, hRa, hrow, hv⟩ := hl.at hil
    have hs := envL_succ l i hil
    have hxr := hrls _ (List.getElem_mem hil)
    have hLl := envL_len l i hi
    generalize l[i] = x at *
    generalize envL l i = L at *
    have hv0 : VI w R cs x := hv
    have hv : VI w R cs x := hv
    have hv3 := hv0.ext x3
    obtain ⟨ctx, cvx, rax, rcx, rfl, htyx, hvlx, hrux, hrlx, hokx⟩ := hv; obtain ⟨kxt, nxt, sxt, lsxt, tsxt, laxt, lcxt, taxt, tcxt, etyx, rfl, hkxt, hnxt, hsxt, hllxt, hltxt, hLxt, hTxt⟩ := htyx.inv; obtain ⟨kxv, nxv, sxv, lsxv, tsxv, laxv, lcxv, taxv, tcxv, evlx, rfl, hkxv, hnxv, hsxv, hllxv, hltxv, hLxv, hTxv⟩ := hvlx.inv
    refine OpT.indexAddr Try.underlying22 Try.sizeOf35 rfl rfl ha1 (by first | omega | (simp only [lenOk] at *; omega)) ?_; refine Lands.v hh3 ?_
    refine OpT.loadA Try.isAgg35 (by exact Try.sizeOf35) rfl (hrow.ext x3) ?_; refine Lands.ret (s := .a [.v (.int .u8 x.kind), .v (.string x.name), .v (.int .i64 x.params), .v (.int .u8 kxt), .v (.int .i64 nxt), .v (.string sxt), .v (.slice laxt lsxt.length lcxt), .v (.slice taxt tsxt.length tcxt), .v (.int .u8 kxv), .v (.int .i64 nxv), .v (.string sxv), .v (.slice laxv lsxv.length lcxv), .v (.slice taxv tsxv.length tcxv), .v (.int .i64 x.height), .v (.string x.block), .v (.string x.of_), .v (.int .i64 x.fixed), .v (.int .i64 x.index), .v (.int .i64 x.no), .v (.int .i64 x.fields), .v (.int .i64 x.motives), .v (.int .i64 x.minors), .v (.slice rax x.rules.length rcx), .v (.int .i64 x.ctors), .v (.bool x.record)]) rfl rfl hh3 ?_
    refine OpT.buildE (E := encInf) (R := R) (vs := [_]) (l := [x]) Try.zeroValue35 (.cons rfl (.nil)) Try.underlying22 Try.sizeOf35 rfl rfl (Reps.cons hv3 (Reps.nil _ _ _)) rfl rfl hh3 fun w4 g4 e4 x4 z4 o4 hh4 => ?_
    have r3 := hE.lt
    have i3 := hI.own
    refine vcM (Add_x e m A _ c 1 L [x] w4 (hE.ext x4) (fun k hk => by have := i3 k hk; omega) o4.sl (fun k hk => ⟨⟨hk.2, fun ho => ?_⟩, fun hm => ?_⟩) (by simp [lenOk]) (by simp) (by simpa using hxr)) hh4 trivial fun v5 w5 m5 z5 hh5 p5 => ?_
    · have := i3 k ho
      rcases hk.1 with h | h
      · have := hR k h; have := x1.size; omega
      · omega
    · have := r3 k hm
      rcases hk.1 with h | h
      · have := hR k h; have := x1.size; omega
      · omega
    obtain ⟨rfl, A5, c5, hE5, n5⟩ := p5
    have y5 : Ext w w5 := (x3.trans x4).trans' m5 fun k hk hs => by have := r3 k hs; have := x1.size; omega
    have d5 : ∀ k, mine e m A5 k → ¬ ownOf Ai k := fun k hk ho => by
      rcases n5 k hk with h | h
      · exact hd k h ho
      · have := i3 k ho; omega
    have hI5 : IX w5 (mine e m A5) w1.heap.size Ai ci L := (hI.ext x4 hd).mod m5 (fun k _ h => h) hd fun k hk h => (n5 k h).elim id fun h => by omega
    refine OpT.indexAddr Try.underlying22 Try.sizeOf35 rfl rfl ha1 (by first | omega | (simp only [lenOk] at *; omega)) ?_; refine Lands.v hh5 ?_
    refine OpT.load Try.isAgg9 rfl ((hrow.ext y5).cell 1 rfl) ?_; refine Lands.v hh5 ?_
    have r5 := hE5.lt
    refine (Find_x e m A5 c5 (addL L [x]) x.name w5 hE5 (fun k hk => by have := i3 k hk; omega)).mono ?_
    rintro _ w6 ⟨x6, cs6, rfl, hv6⟩
    have hh6 := hh5.ext x6
    have z6 := x6.size
    have hfa := findI_added (L := L) (x := x)
    have hX : getI (addL L [x]) x.name = (findI (addL L [x]) x.name).getD noI := rfl
    generalize getI (addL L [x]) x.name = X at *
    generalize hq : findI (addL L [x]) x.name = fq at *
    have hv6' := hv6
    obtain ⟨ctY, cvY, raY, rcY, rfl, htyY, hvlY, hruY, hrlY, hokY⟩ := hv6; obtain ⟨kYt, nYt, sYt, lsYt, tsYt, laYt, lcYt, taYt, tcYt, etyY, rfl, hkYt, hnYt, hsYt, hllYt, hltYt, hLYt, hTYt⟩ := htyY.inv; obtain ⟨kYv, nYv, sYv, lsYv, tsYv, laYv, lcYv, taYv, tcYv, evlY, rfl, hkYv, hnYv, hsYv, hllYv, hltYv, hLYv, hTYv⟩ := hvlY.inv
    refine Lands.ret (s := .t [.a [.v (.int .u8 X.kind), .v (.string X.name), .v (.int .i64 X.params), .v (.int .u8 kYt), .v (.int .i64 nYt), .v (.string sYt), .v (.slice laYt lsYt.length lcYt), .v (.slice taYt tsYt.length tcYt), .v (.int .u8 kYv), .v (.int .i64 nYv), .v (.string sYv), .v (.slice laYv lsYv.length lcYv), .v (.slice taYv tsYv.length tcYv), .v (.int .i64 X.height), .v (.string X.block), .v (.string X.of_), .v (.int .i64 X.fixed), .v (.int .i64 X.index), .v (.int .i64 X.no), .v (.int .i64 X.fields), .v (.int .i64 X.motives), .v (.int .i64 X.minors), .v (.slice raY X.rules.length rcY), .v (.int .i64 X.ctors), .v (.bool X.record)], .v (.bool fq.isSome)]) rfl rfl hh6 ?_
    intro g7 w7 e7 x7 z7 hh7
    intro w8 m8 z8 hh8
    replace m8 : Upd g7 w7 w8 := m8
    have y68 : Ext w6 w8 := x7.upd m8 (by omega)
    have y8 : Ext w5 w8 := (x6.trans x7).upd m8 (by omega)
    refine vJoin_upd (σ := Option Addr × Nat) [2, 4, 43, 44, 45, 46, 47, 48, 49, 50, 51, 52, 53, 54, 55, 56, 57, 58, 59, 60, 61, 62, 63, 64, 65, 66, 67, 68, 69, 70, 71, 72, 73, 74, 75, 76, 77, 78, 79, 80, 81, 82, 83, 84, 85, 86, 87, 88, 89, 90, 91, 92, 93, 94, 95] (fun s => [(4, .v (.slice s.1 (addL L [x]).length s.2))]) [] (fun _ => [])
      (fun s w' => Ext w w' ∧ w8.heap.size ≤ w'.heap.size ∧ EX w' (ownOf s.1) w1.heap.size e m A5 c5 (addL L [x]) ∧ IX w' (mine e m A5) w1.heap.size s.1 s.2 (addL L [x]) ∧ (∀ k, mine e m A5 k → ¬ ownOf s.1 k)) (fun _ => ⟨rfl, rfl⟩) (fun h => ?_) (fun h => ?_) ?_
    · have h0 : addE L [x] = 0 := of_decide_eq_true h
      have hfq := hfa h0
      subst hfq
      have hX : X = addOne L x := hX
      refine vDrw_mk [30, 45] (.one 0 (.one 1 (.one 2 (.one 3 (.one 4 (.one 5 (.one 6 (.one 7 (.one 8 (.one 9 (.one 10 (.one 11 (.one 12 (.one 13 (.one 14 (.one 15 (.one 16 (.one 17 (.one 18 (.one 19 (.one 20 (.one 21 (.one 22 (.one 23 (.one 24 (.one 25 (.one 26 (.one 27 (.one 28 (.one 29 (.one 30 (.one 31 (.one 32 (.one 33 (.one 34 (.one 35 (.one 36 (.one 37 (.one 38 (.one 39 (.one 40 (.one 41 (.one 42 (.one 43 (.one 44 (.one 45 (.one 46 (.one 47 (.one 48 .nil))))))))))))))))))))))))))))))))))))))))))))))))) rfl fun w9 x9 hh9 => ?_
      have y9 : Ext w w9 := y5.trans (y8.trans x9)
      have hrow9 := hrow.ext y9
      refine Exists.intro (.v (.pointer (some (a1.add (i * 25))))) (And.intro rfl (And.intro (fun w' xx hh _ => OpT.indexAddr Try.underlying22 Try.sizeOf35 rfl rfl ha1 (by simp only [lenOk] at *; omega) ⟨rfl, rfl⟩) ?_))
      refine Exists.intro (.v (.string x.name)) (And.intro rfl (And.intro (fun w' xx hh _ => OpT.load Try.isAgg9 rfl ((hrow9.ext xx).cell 1 rfl) ⟨rfl, rfl⟩) ?_))
      refine Exists.intro (.v (.pointer (some (a1.add (i * 25))))) (And.intro rfl (And.intro (fun w' xx hh _ => OpT.indexAddr Try.underlying22 Try.sizeOf35 rfl rfl ha1 (by simp only [lenOk] at *; omega) ⟨rfl, rfl⟩) ?_))
      refine Exists.intro (.v (.int .u8 x.kind)) (And.intro rfl (And.intro (fun w' xx hh _ => OpT.load Try.isAgg5 rfl ((hrow9.ext xx).cell 0 rfl) ⟨rfl, rfl⟩) ?_))
      refine Exists.intro (.v (.pointer (some (a1.add (i * 25))))) (And.intro rfl (And.intro (fun w' xx hh _ => OpT.indexAddr Try.underlying22 Try.sizeOf35 rfl rfl ha1 (by simp only [lenOk] at *; omega) ⟨rfl, rfl⟩) ?_))
      refine Exists.intro (.a [.v (.int .u8 kxt), .v (.int .i64 nxt), .v (.string sxt), .v (.slice laxt lsxt.length lcxt), .v (.slice taxt tsxt.length tcxt)]) (And.intro rfl (And.intro (fun w' xx hh _ => OpT.loadA Try.isAgg32 (by exact Try.sizeOf32) rfl ((hrow9.ext xx).sub 3 5 rfl) ⟨rfl, rfl⟩) ?_))
      refine Or.inl (Exists.intro (.bool (sameB X.ty x.ty)) (And.intro (fun _ => ?_) (fun w10 x10 hh10 => ?_)))
      · exact rSame_runs X.ty x.ty _ _ w9 _ R (htyY.ext (y68.trans x9)) (htyx.ext y9)
      replace hrow9 := hrow9.ext x10
      refine Exists.intro (.v (.pointer (some (a1.add (i * 25))))) (And.intro rfl (And.intro (fun w' xx hh _ _ => OpT.indexAddr Try.underlying22 Try.sizeOf35 rfl rfl ha1 (by simp only [lenOk] at *; omega) ⟨rfl, rfl⟩) ?_))
      refine Exists.intro (.a [.v (.int .u8 kxv), .v (.int .i64 nxv), .v (.string sxv), .v (.slice laxv lsxv.length lcxv), .v (.slice taxv tsxv.length tcxv)]) (And.intro rfl (And.intro (fun w' xx hh _ _ => OpT.loadA Try.isAgg32 (by exact Try.sizeOf32) rfl ((hrow9.ext xx).sub 8 5 rfl) ⟨rfl, rfl⟩) ?_))
      refine Or.inl (Exists.intro (.bool (sameB X.val x.val)) (And.intro (fun _ _ => ?_) (fun w11 x11 hh11 => ?_)))
      · exact rSame_runs X.val x.val _ _ w10 _ R (hvlY.ext (y68.trans (x9.trans x10))) (hvlx.ext (y9.trans x10))
      refine Or.inl (And.intro (fun h => ?_) (fun h => ?_))
      · exfalso
        have e1 : X.name = x.name := by rw [hX]; rfl
        have e2 : X.kind = x.kind := by rw [hX]; rfl
        have e3 : sameB X.ty x.ty = true := by rw [hX]; exact sameB_refl _
        have e4 : X.kind = 2 → sameB X.val x.val = true := fun hk => by
          rw [hX] at hk ⊢
          have hk : x.kind = 2 := hk
          show sameB (valI x) x.val = true
          unfold valI; rw [if_pos (by rw [hk]; rfl)]; exact sameB_refl _
        by_cases hk : X.kind = 2
        · simp [sel, e1, e2, e3, e4 hk, show x.kind = 2 from e2 ▸ hk] at h
        · simp [sel, e1, e2, e3, show ¬ x.kind = 2 from e2 ▸ hk] at h
      have y11 : Ext w8 w11 := x9.trans (x10.trans x11)
      have hv11 := encInf.ext hv6' (y68.trans y11)
      have hLX : L ++ [X] = addL L [x] := by rw [hX, addL_one h0]
      have hLn : (addL L [x]).length = L.length + 1 := by rw [← hLX]; simp
      have q11 := y11.size
      refine OpT.buildE (E := encInf) (R := (fun k => (k < w6.heap.size ∧ ¬ ownOf Ai k) ∧ ¬ mine e m A5 k)) (vs := [_]) (l := [X]) Try.zeroValue35 (.cons rfl (.nil)) Try.underlying22 Try.sizeOf35 rfl rfl (Reps.cons hv11 (Reps.nil _ _ _)) rfl rfl hh11 fun w12 g12 e12 x12 z12 o12 hh12 => ?_
      have y12 := y8.trans (y11.trans x12)
      refine OpT.appendI elInf Try.underlying22 Try.underlying22 rfl rfl rfl rfl hLX rfl (hI5.ext y12 d5) o12.sl (fun k hk _ => ⟨fun hm => ?_, fun ho => ?_⟩) (by omega) (fun k hk => by have := r5 k hk; omega) hh12 (outR.get (ρ := [g7]) ⟨fun ho => ?_, trivial⟩) (by omega) fun w13 A13 c13 m13 z13 hI13 f13 hh13 => ?_
      · have := r5 k hm
        rcases hk.1 with h | h
        · exact h.2 hm
        · omega
      · have := i3 k ho
        rcases hk.1 with h | h
        · exact h.1.2 ho
        · omega
      · have := i3 _ ho; omega
      exact Exists.intro ((A13, c13)) ⟨esub_over (by repeat (first | exact trivial | refine And.intro rfl ?_)) (by repeat (first | exact trivial | refine And.intro rfl ?_)), hsub_over (by repeat (first | exact trivial | refine And.intro rfl ?_)) (by repeat (first | exact trivial | refine And.intro rfl ?_)), (y5.trans y12).trans' m13 (fun k hk hs => by have := i3 k hs; have := x1.size; omega), by omega, (hE5.ext y12).mod m13 (fun k _ h => h) (fun k hk hm => d5 k hm hk) (fun k hk h => (f13 k h).elim id fun h => by omega), hI13, fun k hk ho => (f13 k ho).elim (d5 k hk) fun h => by have := r5 k hk; omega⟩
    · have h0 : addE L [x] ≠ 0 := of_decide_eq_false h
      have hL : addL L [x] = L := addL_no h0
      rw [hL] at hE5 ⊢
      exact Exists.intro ((Ai, ci)) ⟨esub_over (by repeat (first | exact trivial | refine And.intro rfl ?_)) (by repeat (first | exact trivial | refine And.intro rfl ?_)), hsub_over (by repeat (first | exact trivial | refine And.intro rfl ?_)) (by repeat (first | exact trivial | refine And.intro rfl ?_)), y5.trans y8, Nat.le_refl _, hE5.ext y8, hI5.ext y8 d5, d5⟩
    rintro ⟨Aj, cj⟩ w10 hh10 ⟨y10, z10, hE10, hI10, d10⟩
    have hG' : Good (addL L [x]) := hG.one x
    have hLn' : (addL L [x]).length ≤ 41 := by
      have := envL_len l (i + 1) hil
      rw [hs] at this; omega
    generalize addL L [x] = L' at *
    subst hs
    refine vcV (List_runs e m A5 c5 (envL l (i + 1)) w10 hE10) hh10 fun v11 w11 x11 z11 hh11 p11 => ?_
    obtain ⟨A11, c11, rfl, _⟩ := p11
    refine Or.inl (And.intro (fun h => absurd h (by simp)) (fun _ => ?_))
    refine vLoop_upd (σ := Nat) [2, 9, 10, 11, 102, 103, 104, 105, 106, 107, 108, 109, 110, 111, 112, 113, 114, 115, 116, 117, 118, 119, 120, 121, 122, 123, 124, 125, 126, 127, 128] (fun k => [(9, .v (.int .i64 k))]) [] (fun _ => []) (fun k w' => Ext w10 w' ∧ w11.heap.size ≤ w'.heap.size ∧ k ≤ (envL l (i + 1)).length) (fun k => (envL l (i + 1)).length - k) 0 (fun _ => ⟨rfl, rfl⟩)
      ⟨(by repeat (first | exact trivial | refine And.intro rfl ?_)), (by repeat (first | exact trivial | refine And.intro rfl ?_)), (by repeat (first | exact trivial | refine And.intro rfl ?_)), (by repeat (first | exact trivial | refine And.intro rfl ?_)), x11, Nat.le_refl _, Nat.zero_le _⟩ ?_
    rintro k w12 hh12 ⟨x12, z12, hk⟩
    have hI12 := hI10.ext x12 d10
    have hE12 := hE10.ext x12
    have hlc := hI12.le
    have i12 := hI12.own
    refine Or.inl (And.intro (fun h => ?_) (fun h => ?_))
    · have hkl : k < (envL l (i + 1)).length := by have := of_decide_eq_true h; omega
      obtain ⟨a2, cs2, ha2, _, hrw, hv2⟩ := hI12.sl.at hkl
      have hfnd := findI_get hG'.nd (List.getElem_mem hkl)
      generalize (envL l (i + 1))[k] = u at *
      have hv2 : VI w12 _ cs2 u := hv2
      have hv20 := hv2
      obtain ⟨ctu, cvu, rau, rcu, rfl, htyu, hvlu, hruu, hrlu, hoku⟩ := hv2; obtain ⟨kut, nut, sut, lsut, tsut, laut, lcut, taut, tcut, etyu, rfl, hkut, hnut, hsut, hllut, hltut, hLut, hTut⟩ := htyu.inv; obtain ⟨kuv, nuv, suv, lsuv, tsuv, lauv, lcuv, tauv, tcuv, evlu, rfl, hkuv, hnuv, hsuv, hlluv, hltuv, hLuv, hTuv⟩ := hvlu.inv
      refine OpT.indexAddr Try.underlying22 Try.sizeOf35 rfl rfl ha2 (by first | omega | (simp only [lenOk] at *; omega)) ?_; refine Lands.v hh12 ?_
      refine OpT.load Try.isAgg9 rfl (hrw.cell 1 rfl) ?_; refine Lands.v hh12 ?_
      refine (Find_x e m A5 c5 (envL l (i + 1)) u.name w12 hE12 (fun k hk => (i12 k hk).2)).mono ?_
      rintro _ w13 ⟨x13, cs13, rfl, hv13⟩
      have hh13 := hh12.ext x13
      have z13 := x13.size
      have hgu : getI (envL l (i + 1)) u.name = u := by unfold getI; rw [hfnd]; rfl
      rw [hgu] at hv13
      rw [hfnd]
      have hv130 := hv13
      obtain ⟨ctV, cvV, raV, rcV, rfl, htyV, hvlV, hruV, hrlV, hokV⟩ := hv13; obtain ⟨kVt, nVt, sVt, lsVt, tsVt, laVt, lcVt, taVt, tcVt, etyV, rfl, hkVt, hnVt, hsVt, hllVt, hltVt, hLVt, hTVt⟩ := htyV.inv; obtain ⟨kVv, nVv, sVv, lsVv, tsVv, laVv, lcVv, taVv, tcVv, evlV, rfl, hkVv, hnVv, hsVv, hllVv, hltVv, hLVv, hTVv⟩ := hvlV.inv
      refine Lands.ret (s := .t [.a [.v (.int .u8 u.kind), .v (.string u.name), .v (.int .i64 u.params), .v (.int .u8 kVt), .v (.int .i64 nVt), .v (.string sVt), .v (.slice laVt lsVt.length lcVt), .v (.slice taVt tsVt.length tcVt), .v (.int .u8 kVv), .v (.int .i64 nVv), .v (.string sVv), .v (.slice laVv lsVv.length lcVv), .v (.slice taVv tsVv.length tcVv), .v (.int .i64 u.height), .v (.string u.block), .v (.string u.of_), .v (.int .i64 u.fixed), .v (.int .i64 u.index), .v (.int .i64 u.no), .v (.int .i64 u.fields), .v (.int .i64 u.motives), .v (.int .i64 u.minors), .v (.slice raV u.rules.length rcV), .v (.int .i64 u.ctors), .v (.bool u.record)], .v (.bool true)]) rfl rfl hh13 ?_
      intro g14 w14 e14 x14 z14 hh14
      intro w15 m15 z15 hh15
      replace m15 : Upd g14 w14 w15 := m15
      have y15 : Ext w12 w15 := (x13.trans x14).upd m15 (by omega)
      have y13 : Ext w13 w15 := x14.upd m15 (by omega)
      refine vDrw_mk [8] (.one 0 (.one 1 (.one 2 (.one 3 (.one 4 (.one 5 (.one 6 (.one 7 (.one 8 (.one 9 (.one 10 .nil))))))))))) rfl fun w16 x16 hh16 => ?_
      have hrw16 := hrw.ext (y15.trans x16)
      refine Exists.intro (.v (.pointer (some (a2.add (k * 25))))) (And.intro rfl (And.intro (fun w' xx hh _ => OpT.indexAddr Try.underlying22 Try.sizeOf35 rfl rfl ha2 (by simp only [lenOk] at *; omega) ⟨rfl, rfl⟩) ?_))
      refine Exists.intro (.a [.v (.int .u8 u.kind), .v (.string u.name), .v (.int .i64 u.params), .v (.int .u8 kut), .v (.int .i64 nut), .v (.string sut), .v (.slice laut lsut.length lcut), .v (.slice taut tsut.length tcut), .v (.int .u8 kuv), .v (.int .i64 nuv), .v (.string suv), .v (.slice lauv lsuv.length lcuv), .v (.slice tauv tsuv.length tcuv), .v (.int .i64 u.height), .v (.string u.block), .v (.string u.of_), .v (.int .i64 u.fixed), .v (.int .i64 u.index), .v (.int .i64 u.no), .v (.int .i64 u.fields), .v (.int .i64 u.motives), .v (.int .i64 u.minors), .v (.slice rau u.rules.length rcu), .v (.int .i64 u.ctors), .v (.bool u.record)]) (And.intro rfl (And.intro (fun w' xx hh _ => OpT.loadA Try.isAgg35 (by exact Try.sizeOf35) rfl (hrw16.ext xx) ⟨rfl, rfl⟩) ?_))
      refine vyes rfl ?_
      refine vcZ (rSameI_runs _ _ u u w16 (hv130.ext (y13.trans x16)) (hv20.ext (y15.trans x16))) hh16 fun w17 x17 z17 hh17 => ?_
      rw [infB_refl]
      refine Or.inl (And.intro (fun hx => nomatch (rfl).symm.trans hx) (fun _ => ?_))
      refine vsd (by simp only [inKind]; omega) ?_
      exact Exists.intro (k + 1) ⟨by omega, esub_over (by repeat (first | exact trivial | refine And.intro rfl ?_)) (by repeat (first | exact trivial | refine And.intro rfl ?_)), hsub_over (by repeat (first | exact trivial | refine And.intro rfl ?_)) (by repeat (first | exact trivial | refine And.intro rfl ?_)), x12.trans (y15.trans (x16.trans x17)), by have := x16.size; omega, hkl⟩
    · refine vsd (by simp only [inKind]; omega) ?_
      exact Exists.intro ((i + 1, Aj, cj)) ⟨by show l.length - (i + 1) < l.length - i; omega, esub_over (by repeat (first | exact trivial | refine And.intro rfl ?_)) (by repeat (first | exact trivial | refine And.intro rfl ?_)), hsub_over (by repeat (first | exact trivial | refine And.intro rfl ?_)) (by repeat (first | exact trivial | refine And.intro rfl ?_)), y10.trans x12, hil, by omega, A5, c5, hE12, hI12, d10⟩
  · have hi' : i = l.length := by have := of_decide_eq_false h; simp only at this hi; omega
    have hLl := envL_len l i hi
    generalize envL l i = L at *
    have hIc := hI.le
    refine vLoop_upd (σ := Nat) [2, 12, 129, 130, 131, 132, 133, 134, 135, 136, 137, 138, 139, 140, 141, 142, 143, 144, 145, 146, 147, 148, 149, 150, 151, 152, 153, 154, 155, 156, 157, 158, 159, 160] (fun k => [(12, .v (.int .i64 k))]) [] (fun _ => []) (fun k w' => Ext w3 w' ∧ k ≤ L.length) (fun k => L.length - k) 0 (fun _ => ⟨rfl, rfl⟩)
      ⟨(by repeat (first | exact trivial | refine And.intro rfl ?_)), (by repeat (first | exact trivial | refine And.intro rfl ?_)), (by repeat (first | exact trivial | refine And.intro rfl ?_)), (by repeat (first | exact trivial | refine And.intro rfl ?_)), Ext.refl _, Nat.zero_le _⟩ ?_
    rintro k w4 hh4 ⟨x4, hk⟩
    refine Or.inl (And.intro (fun h => ?_) (fun h => ?_))
    · have hkl : k < L.length := by have := of_decide_eq_true h; omega
      obtain ⟨a2, cs2, ha2, _, hrw, hv2⟩ := (hI.ext x4 hd).sl.at hkl
      have hmem := List.getElem_mem hkl
      generalize L[k] = u at *
      have hv2 : VI w4 _ cs2 u := hv2
      obtain ⟨ctu, cvu, rau, rcu, rfl, htyu, hvlu, hruu, hrlu, hoku⟩ := hv2; obtain ⟨kut, nut, sut, lsut, tsut, laut, lcut, taut, tcut, etyu, rfl, hkut, hnut, hsut, hllut, hltut, hLut, hTut⟩ := htyu.inv; obtain ⟨kuv, nuv, suv, lsuv, tsuv, lauv, lcuv, tauv, tcuv, evlu, rfl, hkuv, hnuv, hsuv, hlluv, hltuv, hLuv, hTuv⟩ := hvlu.inv
      refine OpT.indexAddr Try.underlying22 Try.sizeOf35 rfl rfl ha2 (by first | omega | (simp only [lenOk] at *; omega)) ?_; refine Lands.v hh4 ?_
      refine OpT.load Try.isAgg5 rfl (hrw.cell 0 rfl) ?_; refine Lands.v hh4 ?_
      refine Or.inl (And.intro (fun h => ?_) (fun h => ?_))
      · have hk2 : u.kind ≠ 2 := by simpa using h
        have hh0 := hG.h0 u hmem hk2
        refine OpT.indexAddr Try.underlying22 Try.sizeOf35 rfl rfl ha2 (by first | omega | (simp only [lenOk] at *; omega)) ?_; refine Lands.v hh4 ?_
        refine OpT.load Try.isAgg3 rfl (hrw.cell 13 rfl) ?_; refine Lands.v hh4 ?_
        refine Or.inl (And.intro (fun h => absurd h (by simp [hh0])) (fun _ => ?_))
        refine vsd (by simp only [inKind]; omega) ?_
        exact Exists.intro (k + 1) ⟨by omega, esub_over (by repeat (first | exact trivial | refine And.intro rfl ?_)) (by repeat (first | exact trivial | refine And.intro rfl ?_)), hsub_over (by repeat (first | exact trivial | refine And.intro rfl ?_)) (by repeat (first | exact trivial | refine And.intro rfl ?_)), x4, hkl⟩
      · have hk2 : u.kind = 2 := by simpa using h
        have hh1 := hG.h1 u hmem hk2
        refine vDrw_mk [11] (.one 0 (.one 1 (.one 2 (.one 3 (.one 4 (.one 5 (.one 6 (.one 7 (.one 8 (.one 9 (.one 10 (.one 11 (.one 12 (.one 13 .nil)))))))))))))) rfl fun w5 x5 hh5 => ?_
        have hrw5 := hrw.ext x5
        refine Exists.intro (.v (.pointer (some (a2.add (k * 25))))) (And.intro rfl (And.intro (fun w' xx hh => OpT.indexAddr Try.underlying22 Try.sizeOf35 rfl rfl ha2 (by simp only [lenOk] at *; omega) ⟨rfl, rfl⟩) ?_))
        refine Exists.intro (.v (.int .i64 u.height)) (And.intro rfl (And.intro (fun w' xx hh => OpT.load Try.isAgg3 rfl ((hrw5.ext xx).cell 13 rfl) ⟨rfl, rfl⟩) ?_))
        refine Exists.intro (.v (.pointer (some (a2.add (k * 25))))) (And.intro rfl (And.intro (fun w' xx hh => OpT.indexAddr Try.underlying22 Try.sizeOf35 rfl rfl ha2 (by simp only [lenOk] at *; omega) ⟨rfl, rfl⟩) ?_))
        refine Exists.intro (.a [.v (.int .u8 kuv), .v (.int .i64 nuv), .v (.string suv), .v (.slice lauv lsuv.length lcuv), .v (.slice tauv tsuv.length tcuv)]) (And.intro rfl (And.intro (fun w' xx hh => OpT.loadA Try.isAgg32 (by exact Try.sizeOf32) rfl ((hrw5.ext xx).sub 8 5 rfl) ⟨rfl, rfl⟩) ?_))
        have hbl := heightB_le L u.val hE.hts
        refine vcZ (Height_runs e m A c L u.val _ w5 (EA.ext hE (x4.trans x5)) (hvlu.ext x5)) hh5 fun w6 x6 z6 hh6 => ?_
        refine And.intro x6 ?_
        refine vsd (by show inKind _ _; simp only [inKind]; omega) ?_
        refine Or.inl (And.intro (fun h => absurd h (by simp [hh1])) (fun _ => ?_))
        refine vsd (by simp only [inKind]; omega) ?_
        exact Exists.intro (k + 1) ⟨by omega, esub_over (by repeat (first | exact trivial | refine And.intro rfl ?_)) (by repeat (first | exact trivial | refine And.intro rfl ?_)), hsub_over (by repeat (first | exact trivial | refine And.intro rfl ?_)) (by repeat (first | exact trivial | refine And.intro rfl ?_)), x4.trans (x5.trans x6), hkl⟩
    · refine vcZ (works_runs w4) hh4 fun w5 x5 z5 hh5 => ?_
      exact ⟨rfl, x3.trans (x4.trans x5)⟩
end Go.Proofs.Ytnoghkpofpaeeaa

