/-
  What names rest on when infos of no block are added: the plain law.
-/
import Derived.Test.YtfljbnhhkdaobaaGreatC8
import Derived.Test.YtfljbnhhkdaobaaGreatA8
import Derived.Test.YtfljbnhhkdaobaaGreatC9
import Derived.Test.YtfljbnhhkdaobaaGreatB6
import Derived.Test.YtfljbnhhkdaobaaGreatB7g
import Derived.Test.YtfljbnhhkdaobaaGreatRows
import Derived.ProofKit
import Derived.SizedLaws
import Derived.ChangeMaps5
namespace Go.Proofs.YtfljbnhhkdaobaaGreat
open Go Go.RowKit Go.Proofs.Bw
set_option linter.unusedVariables false
set_option linter.unusedSimpArgs false
def GB (l l' : List Inf) : Prop := ∃ m, l' = l ++ m ∧ ∀ y ∈ m, y.block = noS
theorem GB.refl (l : List Inf) : GB l l := ⟨[], (List.append_nil l).symm, fun y h => by cases h⟩
theorem GB.add {l l' : List Inf} (h : GB l l') (x : Inf) (hx : x.block = noS) : GB l (addL l' [x]) := by
  by_cases ha : addE l' [x] = 0
  · rw [addL_one ha]
    obtain ⟨m, rfl, hn⟩ := h
    refine ⟨m ++ [addOne (l ++ m) x], by rw [List.append_assoc], fun y hy => ?_⟩
    rcases List.mem_append.1 hy with hy | hy
    · exact hn y hy
    · rw [List.mem_singleton.1 hy]; exact hx
  · rw [addL_no ha]; exact h
theorem GB.find {l l' : List Inf} (hg : GB l l') {s : ByteArray} (h : (findI l s).isSome = true) : findI l' s = findI l s := by
  obtain ⟨m, rfl, _⟩ := hg
  unfold findI at *
  rw [List.find?_append]
  cases hq : List.find? (fun x => decide (x.name = s)) l with
  | none => rw [hq] at h; cases h
  | some z => rfl
theorem GB.get {l l' : List Inf} (hg : GB l l') {s : ByteArray} (h : (findI l s).isSome = true) : getI l' s = getI l s := by unfold getI; rw [hg.find h]
theorem findI_map' {l : List Inf} {n : ByteArray} (h : n ∈ l.map (·.name)) : (findI l n).isSome = true := by
  obtain ⟨x, hx, rfl⟩ := List.mem_map.1 h
  unfold findI
  rw [List.find?_isSome]
  exact ⟨x, hx, decide_eq_true rfl⟩
theorem blk_mem {l : List Inf} {x : Inf} {q : ByteArray} : q ∈ blkL l x ↔ q = x.block ∨ (findI l q).isSome = true ∧ (getI l q).block = x.block := by
  unfold blkL
  rw [List.mem_cons, List.mem_filter, decide_eq_true_eq]
  exact ⟨fun h => h.imp id fun h => ⟨findI_map' h.1, h.2⟩, fun h => h.imp id fun h => ⟨findI_nm h.1, h.2⟩⟩
theorem GB.blk {l l' : List Inf} (hg : GB l l') {x : Inf} (hx : ¬ x.block = noS) {q : ByteArray} : q ∈ blkL l' x ↔ q ∈ blkL l x := by
  rw [blk_mem, blk_mem]
  refine or_congr Iff.rfl ⟨fun ⟨h1, h2⟩ => ?_, fun ⟨h1, h2⟩ => ⟨by rw [hg.find h1]; exact h1, by rw [hg.get h1]; exact h2⟩⟩
  by_cases hq : (findI l q).isSome = true
  · exact ⟨hq, by rw [← hg.get hq]; exact h2⟩
  · refine (hx ?_).elim
    rw [← h2]
    obtain ⟨y, hy⟩ := Option.isSome_iff_exists.1 h1
    obtain ⟨m, rfl, hm⟩ := hg
    obtain ⟨hy1, hy2⟩ := findI_mem hy
    have hg' : getI (l ++ m) q = y := by unfold getI; rw [hy]; rfl
    rw [hg']
    rcases List.mem_append.1 hy1 with h | h
    · exact (hq (findI_map' (List.mem_map.2 ⟨y, h, hy2⟩))).elim
    · exact hm y h
theorem GB.uses {l l' : List Inf} (hg : GB l l') {a : ByteArray} (op : Bool) (h : (findI l a).isSome = true) (q : ByteArray) : q ∈ usesL l' op a ↔ q ∈ usesL l op a := by
  unfold usesL
  rw [hg.find h]
  cases findI l a with
  | none => exact Iff.rfl
  | some x =>
    show q ∈ List.filter _ (useN l' op x) ↔ q ∈ List.filter _ (useN l op x)
    rw [List.mem_filter, List.mem_filter]
    refine and_congr ?_ Iff.rfl
    unfold useN
    by_cases hx : x.block = noS
    · rw [if_pos hx, if_pos hx]
    · rw [if_neg hx, if_neg hx]
      exact (List.mem_append.trans (or_congr Iff.rfl (hg.blk hx))).trans List.mem_append.symm
end Go.Proofs.YtfljbnhhkdaobaaGreat

/-
  AxiomsLater.
-/
namespace Go.Proofs.YtfljbnhhkdaobaaGreat
open Go Go.RowKit Go.Proofs.Bw
set_option linter.unusedVariables false
set_option linter.unusedSimpArgs false
theorem few_le {l : List Inf} (h : fewB l = true) : l.length ≤ 40 ∧ ∀ x ∈ l, x.rules.length ≤ 20 := by
  unfold fewB at h
  rw [Bool.and_eq_true] at h
  refine ⟨?_, fun x hx => ?_⟩
  · have := h.1
    simp at this
    omega
  · have := List.all_eq_true.1 h.2 x hx
    unfold fewI at this
    simp at this
    omega
end Go.Proofs.YtfljbnhhkdaobaaGreat

/-
  AxiomsNil.
-/
namespace Go.Proofs.YtfljbnhhkdaobaaGreat
open Go Go.RowKit Go.Proofs.Bw
set_option linter.unusedVariables false
set_option linter.unusedSimpArgs false
theorem set_nil {S : ByteArray → Prop} {l : List ByteArray} (h : SetL S l) (hs : ∀ q, ¬ S q) : l = [] := by
  cases l with
  | nil => rfl
  | cons a r => exact (hs a ((h.2 a).1 (List.mem_cons_self ..))).elim
end Go.Proofs.YtfljbnhhkdaobaaGreat

/-
  What names rest on: the plain laws of AxiomsRests.
-/
namespace Go.Proofs.YtfljbnhhkdaobaaGreat
open Go Go.RowKit Go.Proofs.Bw
set_option linter.unusedVariables false
set_option linter.unusedSimpArgs false
theorem Rch.mono {L : List Inf} {op : Bool} {l l' : List ByteArray} (h : ∀ q ∈ l, q ∈ l') {q : ByteArray} (hq : Rch L op l q) : Rch L op l' q := by
  induction hq with
  | base h1 h2 => exact .base (h _ h1) h2
  | step _ h1 h2 ih => exact .step ih h1 h2
theorem look_op {x : Inf} (h : lookB true x = true) : lookB false x = true := by
  unfold lookB at *
  by_cases h2 : x.kind = 2 <;> simp_all
theorem flat_le {α β : Type} {f : α → List β} {k : Nat} : ∀ {l : List α}, (∀ x ∈ l, (f x).length ≤ k) → (l.flatMap f).length ≤ l.length * k
  | [], _ => by simp
  | x :: r, h => by
    have h1 := h x (List.mem_cons_self ..)
    have h2 := flat_le (l := r) fun y hy => h y (List.mem_cons_of_mem _ hy)
    rw [List.flatMap_cons, List.length_append, List.length_cons, Nat.succ_mul]; omega
end Go.Proofs.YtfljbnhhkdaobaaGreat

/-
  Plain laws of AxiomsPlays: terms of an environment may be, names are unlike; lists of names that are sorted.
-/
namespace Go.Proofs.YtfljbnhhkdaobaaGreat
open Go Go.RowKit Go.Proofs.Bw
set_option linter.unusedVariables false
set_option linter.unusedSimpArgs false
def useT (op : Bool) (x : Inf) : List T := [x.ty] ++ (if lookB op x then [x.val] else []) ++ x.rules.map (·.b)
theorem useN_T (L : List Inf) (op : Bool) (x : Inf) : useN L op x = (useT op x).flatMap nms ++ (if x.block = noS then [] else blkL L x) := by
  unfold useN useT
  rw [List.flatMap_append, List.flatMap_append, List.flatMap_singleton, List.flatMap_map]
  split <;> simp
theorem useT_op {op : Bool} {x : Inf} {t : T} (h : t ∈ useT op x) : t ∈ useT false x := by
  unfold useT at *
  rcases List.mem_append.1 h with h | h
  · refine List.mem_append.2 (.inl ?_)
    rcases List.mem_append.1 h with h | h
    · exact List.mem_append.2 (.inl h)
    · refine List.mem_append.2 (.inr ?_)
      by_cases hl : lookB op x = true
      · rw [if_pos hl] at h
        rw [if_pos (by cases op with
          | false => exact hl
          | true => exact look_op hl)]
        exact h
      · rw [if_neg hl] at h; cases h
  · exact List.mem_append.2 (.inr h)
structure NG (L : List Inf) : Prop where
  may : ∀ x ∈ L, ∀ t ∈ useT false x, mayT t = true
  rl : ∀ x ∈ L, x.rules.length ≤ 1000
  nd : (L.map (·.name)).Nodup
theorem addAll_mem9 {l : List Inf} : ∀ {xs : List Inf} {y : Inf}, y ∈ addAll l xs → y ∈ l ∨ ∃ x ∈ xs, y.ty = x.ty ∧ y.kind = x.kind ∧ y.val = valI x ∧ y.rules = x.rules := by
  intro xs
  induction xs using snoc_ind with
  | h0 => intro y h; exact .inl h
  | h xs x ih =>
    intro y h
    rw [addAll_snoc] at h
    rcases List.mem_append.1 h with h | h
    · exact (ih h).imp id fun ⟨z, hz, h⟩ => ⟨z, by simp [hz], h⟩
    · rw [List.mem_singleton] at h; subst h
      exact .inr ⟨x, by simp, rfl, rfl, rfl, rfl⟩
theorem addAll_names9 {l : List Inf} : ∀ xs : List Inf, (addAll l xs).map (·.name) = l.map (·.name) ++ xs.map (·.name) := by
  intro xs
  induction xs using snoc_ind with
  | h0 => simp [addAll]
  | h xs x ih => rw [addAll_snoc, List.map_append, ih]; simp [addOne]
theorem look_valB {x : Inf} (h : lookB false x = true) : valB x.kind = true := by
  unfold lookB at h; unfold valB
  rcases Bool.or_eq_true _ _ ▸ h with h | h
  · rw [Bool.or_eq_true]; exact .inl (by simpa using h)
  · rw [Bool.or_eq_true]; exact .inr (by simpa using h)
theorem NG.add {L : List Inf} (h : NG L) (xs : List Inf) (hxs : ∀ x ∈ xs, x.rules.length ≤ 1000) : NG (addL L xs) := by
  unfold addL
  by_cases h0 : addE L xs = 0
  · rw [if_pos h0]
    have hch : addE L xs = checksB L xs xs 0 := by
      have := checks_fst h0
      unfold addE; rw [if_neg (by omega)]
    have hck := checks_ok xs 0 (by rw [← hch]; exact h0)
    refine ⟨fun y hy => ?_, fun y hy => ?_, ?_⟩
    · rcases addAll_mem9 hy with hy | ⟨x, hx, e1, e2, e3, e4⟩
      · exact h.may y hy
      · obtain ⟨j, hj, rfl⟩ := List.mem_iff_getElem.1 hx
        have hc := checkB_may (hck j hj)
        intro t ht
        unfold useT at ht
        rw [e1, e3, e4] at ht
        refine hc t ?_
        unfold infT
        rcases List.mem_append.1 ht with ht | ht
        · rcases List.mem_append.1 ht with ht | ht
          · exact List.mem_append.2 (.inl (List.mem_append.2 (.inl ht)))
          · by_cases hl : lookB false y = true
            · have hv : valB xs[j].kind = true := by rw [← e2]; exact look_valB hl
              rw [if_pos hl] at ht
              unfold valI at ht
              rw [if_pos hv] at ht
              exact List.mem_append.2 (.inl (List.mem_append.2 (.inr (by rw [if_pos hv]; exact ht))))
            · rw [if_neg hl] at ht; cases ht
        · exact List.mem_append.2 (.inr ht)
    · rcases addAll_mem9 hy with hy | ⟨x, hx, e1, e2, e3, e4⟩
      · exact h.rl y hy
      · rw [e4]; exact hxs x hx
    · rw [addAll_names9]
      have key : ∀ j, j ≤ xs.length → (L.map (·.name) ++ (xs.take j).map (·.name)).Nodup := by
        intro j
        induction j with
        | zero => intro _; simpa using h.nd
        | succ j ih =>
          intro hj
          have hfr := checkB_fresh (hck j hj)
          rw [Nat.zero_add] at hfr
          rw [take_snoc xs j hj, List.map_append, ← List.append_assoc]
          refine List.nodup_append.2 ⟨ih (by omega), by simp, ?_⟩
          intro a ha b hb hab
          rw [List.map_singleton, List.mem_singleton] at hb
          subst hab; subst hb
          rcases List.mem_append.1 ha with ha | ha
          · obtain ⟨x, hx, hxn⟩ := List.mem_map.1 ha
            have : findI L xs[j].name = none := Option.not_isSome_iff_eq_none.1 (by rw [hfr.1]; decide)
            exact findI_none.1 this x hx hxn
          · obtain ⟨x, hx, hxn⟩ := List.mem_map.1 ha
            have h2 := hfr.2
            unfold nameIn at h2
            rw [List.any_eq_false] at h2
            exact h2 x hx (by simpa using hxn)
      have := key xs.length (Nat.le_refl _)
      rwa [List.take_length] at this
  · rw [if_neg h0]; exact h
theorem SL_NG : NG SL := by
  have h : (SL.all fun x => (useT false x).all mayT) = true ∧ (SL.all fun x => decide (x.rules.length ≤ 1000)) = true ∧ (SL.map (·.name)).Nodup := by
    unfold SL smpL; rw [addAll_F]
    exact ⟨by decide +kernel, by decide +kernel, by decide +kernel⟩
  exact ⟨fun x hx t ht => List.all_eq_true.1 (List.all_eq_true.1 h.1 x hx) t ht, fun x hx => of_decide_eq_true (List.all_eq_true.1 h.2.1 x hx), h.2.2⟩
theorem envP_NG (l : List Inf) (hl : ∀ x ∈ l, x.rules.length ≤ 1000) : ∀ i, i ≤ l.length → NG (envP l i)
  | 0, _ => SL_NG
  | i + 1, h => by
    rw [envP_succ l i h]
    exact (envP_NG l hl i (by omega)).add _ fun x hx => by rw [List.mem_singleton] at hx; subst hx; exact hl _ (List.getElem_mem h)
theorem NG.get {L : List Inf} (h : NG L) {x : Inf} (hx : x ∈ L) : findI L x.name = some x := by
  cases hf : findI L x.name with
  | none => exact absurd rfl (findI_none.1 hf x hx)
  | some y =>
    obtain ⟨hy, hn⟩ := findI_mem hf
    congr 1
    obtain ⟨i, hi, rfl⟩ := List.getElem_of_mem hx
    obtain ⟨j, hj, rfl⟩ := List.getElem_of_mem hy
    have := (List.getElem_inj (h₀ := by rw [List.length_map]; exact hj) (h₁ := by rw [List.length_map]; exact hi) h.nd).1 (by rw [List.getElem_map, List.getElem_map]; exact hn)
    subst this; rfl
def blkD (L : List Inf) (b : ByteArray) : List ByteArray := (L.filter fun y => decide (y.block = b)).map (·.name)
theorem NG.blk {L : List Inf} (h : NG L) (x : Inf) (q : ByteArray) : q ∈ x.block :: blkD L x.block ↔ q ∈ blkL L x := by
  rw [blk_mem, List.mem_cons]
  refine or_congr Iff.rfl ?_
  unfold blkD
  rw [List.mem_map]
  constructor
  · rintro ⟨y, hy, rfl⟩
    obtain ⟨h1, h2⟩ := List.mem_filter.1 hy
    have hg := h.get h1
    refine ⟨by rw [hg]; rfl, ?_⟩
    unfold getI; rw [hg]; exact of_decide_eq_true h2
  · rintro ⟨h1, h2⟩
    obtain ⟨y, hy⟩ := Option.isSome_iff_exists.1 h1
    have hm := findI_mem hy
    refine ⟨y, List.mem_filter.2 ⟨hm.1, ?_⟩, hm.2⟩
    have : getI L q = y := by unfold getI; rw [hy]; rfl
    rw [this] at h2
    exact decide_eq_true h2
theorem SetL.more {S : ByteArray → Prop} {l : List ByteArray} (h : SetL S l) (s : ByteArray) : SetL (fun q => S q ∨ q = s) (withB l s) := by
  obtain ⟨h1, h2⟩ := withB_law (l := l) h.1 s
  exact ⟨h1, fun q => by rw [h2, h.2]⟩
theorem SetL.le {l pre big : List ByteArray} (h : SetL (fun q => q ∈ pre) l) (hb : ∀ q ∈ pre, q ∈ big) : l.length ≤ big.length :=
  nodup_len h.1.nodup fun q hq => hb q ((h.2 q).1 hq)
structure NS (w : World) (A : Option Addr) (c : Nat) (pre l : List ByteArray) : Prop where
  le : lenOk l.length c
  sl : Sl encS w (fun k => k < w.heap.size) A l
  set : SetL (fun q => q ∈ pre) l
theorem NS.nil (w : World) : NS w none 0 [] [] := ⟨by simp [lenOk], Sl.nil _ _ _ _, List.Pairwise.nil, fun s => by simp⟩
theorem NS.ext {w w' : World} {A : Option Addr} {c : Nat} {pre l : List ByteArray} (h : NS w A c pre l) (hx : Ext w w') : NS w' A c pre l :=
  ⟨h.le, (h.sl.ext hx).mono fun k hk => Nat.lt_of_lt_of_le hk hx.size, h.set⟩
theorem NS.congr {w : World} {A : Option Addr} {c : Nat} {pre pre' l : List ByteArray} (h : NS w A c pre l) (hp : ∀ q, q ∈ pre ↔ q ∈ pre') : NS w A c pre' l :=
  ⟨h.le, h.sl, h.set.congr hp⟩
set_option maxRecDepth 20000 in
theorem WithS_runs (A : Option Addr) (c : Nat) (pre l : List ByteArray) (s : ByteArray) (w : World) (h : NS w A c pre l) (hl : l.length ≤ 8000000000000) (hs : s.size ≤ 9223372036854775807) :
    Runs Tryz.prog 31 #[.slice A l.length c, .string s] w fun v w' => Ext w w' ∧ ∃ A' c' l', v = .slice A' l'.length c' ∧ NS w' A' c' (pre ++ [s]) l' := by
  refine (With9_runs A l c s w h.sl (fun k hk => hk) h.le hl hs).mono ?_
  rintro _ w' ⟨x, A', c', rfl, h1, h2⟩
  exact ⟨x, A', c', _, rfl, h1, h2, (h.set.more s).congr fun q => by simp⟩
theorem useN_len {L : List Inf} {op : Bool} {x : Inf} (h1 : x.rules.length ≤ 1000) (h2 : L.length ≤ 4096) : (useN L op x).length ≤ 70000000 := by
  unfold useN
  have e1 := nmsE_len x.ty
  have e2 := nmsE_len x.val
  have e3 : (x.rules.flatMap fun r => nms r.b).length ≤ x.rules.length * 65536 := flat_le fun r _ => nmsE_len r.b
  have e4 : (blkL L x).length ≤ 4097 := by
    unfold blkL
    have := List.length_filter_le (fun n => decide ((getI L n).block = x.block)) (L.map (·.name))
    rw [List.length_map] at this
    rw [List.length_cons]; omega
  have e5 : (if lookB op x then nms x.val else []).length ≤ 65536 := by split <;> simp [e2]
  have e6 : (if x.block = noS then [] else blkL L x).length ≤ 4097 := by
    split
    · simp
    · exact e4
  simp only [List.length_append]
  omega
structure RT (L : List Inf) (op : Bool) (ns out : List ByteArray) : Prop where
  ord : OrdL out
  ok : ∀ q ∈ out, Rch L op ns q
theorem RT.few {L : List Inf} {op : Bool} {ns out : List ByteArray} (h : RT L op ns out) : out.length ≤ L.length := by
  have := nodup_len h.ord.nodup fun q hq => findI_nm (h.ok q hq).there
  rwa [List.length_map] at this
theorem RT.more {L : List Inf} {op : Bool} {ns out : List ByteArray} (h : RT L op ns out) {s : ByteArray} (hs : Rch L op ns s) : RT L op ns (withB out s) := by
  obtain ⟨h1, h2⟩ := withB_law (l := out) h.ord s
  refine ⟨h1, fun q hq => ?_⟩
  rcases (h2 q).1 hq with hq | rfl
  · exact h.ok q hq
  · exact hs
theorem with_sub {l : List ByteArray} (h : OrdL l) (s q : ByteArray) : q ∈ withB l s ↔ q ∈ l ∨ q = s := (withB_law (l := l) h s).2 q
theorem sub_back {now out : List ByteArray} (hn : now.Nodup) (hs : ∀ q ∈ now, q ∈ out) (ho : out.Nodup) (hl : out.length ≤ now.length) : ∀ q ∈ out, q ∈ now := by
  intro q hq
  refine Classical.byContradiction fun hne => ?_
  have := nodup_len (l := q :: now) (l2 := out) (List.nodup_cons.2 ⟨hne, hn⟩) fun u hu => by
    rcases List.mem_cons.1 hu with rfl | hu
    · exact hq
    · exact hs u hu
  rw [List.length_cons] at this; omega
theorem rt_done {L : List Inf} {op : Bool} {ns now out : List ByteArray} (h : RT L op ns out) (hb : ∀ q ∈ ns, (findI L q).isSome = true → q ∈ out) (hn : OrdL now) (hs : ∀ q ∈ now, q ∈ out) (hl : out.length = now.length)
    (hc : ∀ a ∈ now, ∀ q ∈ usesL L op a, (findI L q).isSome = true → q ∈ out) : SetL (Rch L op ns) out := by
  have hbk := sub_back hn.nodup hs h.ord.nodup (by omega)
  refine ⟨h.ord, fun q => ⟨h.ok q, fun hq => ?_⟩⟩
  induction hq with
  | base h1 h2 => exact hb _ h1 h2
  | step _ h1 h2 ih => exact hc _ (hbk _ ih) _ h1 h2
end Go.Proofs.YtfljbnhhkdaobaaGreat

/-
  What names use, of the document.
-/
namespace Go.Proofs.YtfljbnhhkdaobaaGreat
open Go Go.RowKit Go.Proofs.Bw
set_option linter.unusedVariables false
set_option linter.unusedSimpArgs false
set_option maxRecDepth 20000 in
set_option maxHeartbeats 4000000 in
theorem ruses_runs {M : Nat → Prop} {lo : Nat} (op : Bool) (g : Nat) (Ad : Option Addr) (cd : Nat) (L : List Inf) (s : ByteArray) (w : World) (hD : RA w M lo g Ad cd L) (hG : NG L) :
    Runs Tryz.prog 61 #[.pointer (some ⟨g, 0, none⟩), .string s, .bool op] w fun v w' => Ext w w' ∧ ∃ A c l, v = .slice A l.length c ∧ OwnE encS w' w.heap.size 9 (fun _ => False) A c l ∧ SetL (fun q => q ∈ usesL L op s) l := by
  refine Runs.of_vc (ρ := [g]) cx_ok [0, 1, 2, 6, 7, 8, 9, 10, 11, 12, 13, 14, 15, 16, 17, 25, 40, 50, 65, 76, 87, 98, 111, 125, 133] [.p 0 0, .v _, .v _] Tryz.func61 rfl rfl rfl (Holds.one (g := g) (cs := [.v (.slice Ad L.length cd)]) hD.box rfl) ?_
  have hfew := hD.few
  have hhD : Holds [g] [(0, [.v (.slice Ad L.length cd)])] w := Holds.one hD.box rfl
  refine (rFind_runs g Ad cd L s w hD.box hD.sl (by omega)).mono ?_
  rintro _ w1 ⟨x1, cs1, rfl, hv1⟩
  have hh1 := hhD.ext x1
  have z1 := x1.size
  have hgI : findI L s = none ∨ findI L s = some (getI L s) := by
    unfold getI; cases findI L s with
    | none => exact .inl rfl
    | some x => exact .inr rfl
  generalize getI L s = X at *
  have hv10 := hv1
  obtain ⟨ctY, cvY, raY, rcY, rfl, htyY, hvlY, hruY, hrlY, hokY⟩ := hv1; obtain ⟨kYt, nYt, sYt, lsYt, tsYt, laYt, lcYt, taYt, tcYt, etyY, rfl, hkYt, hnYt, hsYt, hllYt, hltYt, hLYt, hTYt⟩ := htyY.inv; obtain ⟨kYv, nYv, sYv, lsYv, tsYv, laYv, lcYv, taYv, tcYv, evlY, rfl, hkYv, hnYv, hsYv, hllYv, hltYv, hLYv, hTYv⟩ := hvlY.inv
  refine Lands.ret (s := .t [.a [.v (.int .u8 X.kind), .v (.string X.name), .v (.int .i64 X.params), .v (.int .u8 kYt), .v (.int .i64 nYt), .v (.string sYt), .v (.slice laYt lsYt.length lcYt), .v (.slice taYt tsYt.length tcYt), .v (.int .u8 kYv), .v (.int .i64 nYv), .v (.string sYv), .v (.slice laYv lsYv.length lcYv), .v (.slice taYv tsYv.length tcYv), .v (.int .i64 X.height), .v (.string X.block), .v (.string X.of_), .v (.int .i64 X.fixed), .v (.int .i64 X.index), .v (.int .i64 X.no), .v (.int .i64 X.fields), .v (.int .i64 X.motives), .v (.int .i64 X.minors), .v (.slice raY X.rules.length rcY), .v (.int .i64 X.ctors), .v (.bool X.record)], .v (.bool (findI L s).isSome)]) rfl rfl hh1 ?_
  intro g2 w2 e2 x2 z2 hh2; intro w3 m3 z3 hh3; replace m3 : Upd g2 w2 w3 := m3; have x3 : Ext w1 w3 := x2.upd m3 (by omega); have q3 := x3.size
  have y3 : Ext w w3 := x1.trans x3
  have hgl := hD.box.lt
  have hg3 : g < w3.heap.size := Nat.lt_of_lt_of_le hgl y3.size
  refine Or.inl (And.intro (fun h => ?_) (fun h => ?_))
  · have hn : findI L s = none := by simpa [sel] using h
    exact ⟨y3, none, 0, [], rfl, OwnE.nil _ _ _ _ _, List.Pairwise.nil, fun q => by unfold usesL; rw [hn]⟩
  have hsm : findI L s = some X := by
    rcases hgI with h' | h'
    · rw [h'] at h; simp [sel] at h
    · exact h'
  have hmay := hG.may X (findI_mem hsm).1
  clear h hgI
  refine OpT.buildE (E := encT) (R := (fun k => k < w.heap.size)) (vs := [_]) (l := [X.ty]) Tryz.zeroValue33 (.cons rfl (.nil)) Tryz.underlying31 Tryz.sizeOf33 rfl rfl (Reps.cons (htyY.ext x3) (Reps.nil _ _ _)) rfl rfl hh3 fun w4 g4 e4 x4 z4 o4 hh4 => ?_
  have hrl := hG.rl X (findI_mem hsm).1
  have hTl : (useT op X).length ≤ 1002 := by unfold useT; split <;> simp <;> omega
  have hR : ∀ k, (fun k => k < w.heap.size) k → k < w3.heap.size := fun k (hk : k < w.heap.size) => by have := x3.size; omega
  have key : sel (decide (X.kind = 2)) true (sel (decide (X.kind = 3)) (!op) false) = lookB op X := by
    unfold lookB; by_cases h2 : X.kind = 2 <;> by_cases h3 : X.kind = 3 <;> simp [sel, h2, h3]
  have y4 := y3.trans x4
  refine vJoin_upd (σ := Option Addr × Nat) [9, 41, 42, 43, 44, 45] (fun s => [(9, .v (.slice s.1 ([X.ty] ++ if lookB op X then [X.val] else []).length s.2))]) [] (fun _ => [])
    (fun s w' => Ext w3 w' ∧ w3.heap.size ≤ w'.heap.size ∧ OwnE encT w' w3.heap.size 33 (fun k => k < w.heap.size) s.1 s.2 ([X.ty] ++ if lookB op X then [X.val] else [])) (fun _ => ⟨rfl, rfl⟩) (fun h => ?_) (fun h => ?_) ?_
  · have hl : lookB op X = true := key.symm.trans h
    rw [if_pos hl]
    refine OpT.buildE (E := encT) (R := (fun k => k < w.heap.size)) (vs := [_]) (l := [X.val]) Tryz.zeroValue33 (.cons rfl (.nil)) Tryz.underlying31 Tryz.sizeOf33 rfl rfl (Reps.cons (hvlY.ext (x3.trans x4)) (Reps.nil _ _ _)) rfl rfl hh4 fun w5 g5 e5 x5 z5 o5 hh5 => ?_
    refine OpT.appendO (E := encT) elT Tryz.underlying31 Tryz.underlying31 rfl rfl rfl rfl (l3 := [X.ty] ++ [X.val]) rfl rfl o4 x5 o5 (by omega) (fun k hk => by have := hR k hk; omega) (x4.trans x5) (by omega) hh5 (by repeat (first | exact trivial | refine And.intro (by omega) ?_)) (by simp only [List.length_append, List.length_cons, List.length_nil]; omega) fun w6 A6 c6 y6 z6 o6 hh6 => ?_
    exact Exists.intro ((A6, c6)) ⟨esub_over (by repeat (first | exact trivial | refine And.intro rfl ?_)) (by repeat (first | exact trivial | refine And.intro rfl ?_)), hsub_over (by repeat (first | exact trivial | refine And.intro rfl ?_)) (by repeat (first | exact trivial | refine And.intro rfl ?_)), y6, by omega, o6⟩
  · have hl : ¬ lookB op X = true := by rw [key.symm.trans h]; decide
    rw [if_neg hl]
    exact Exists.intro ((some ⟨g4, 0, none⟩, 1)) ⟨esub_over (by repeat (first | exact trivial | refine And.intro rfl ?_)) (by repeat (first | exact trivial | refine And.intro rfl ?_)), hsub_over (by repeat (first | exact trivial | refine And.intro rfl ?_)) (by repeat (first | exact trivial | refine And.intro rfl ?_)), x4, by omega, o4⟩
  rintro ⟨A5, c5⟩ w5 hh5 ⟨y5, q5, o5⟩
  refine vLoop_upd (σ := Nat × Option Addr × Nat) [9, 10, 46, 47, 48, 49, 50, 51, 52, 53, 54, 55, 56, 57, 58, 59, 60, 61] (fun s => [(10, .v (.int .i64 s.1)), (9, .v (.slice s.2.1 ([X.ty] ++ (if lookB op X then [X.val] else []) ++ (X.rules.take s.1).map (·.b)).length s.2.2))]) [] (fun _ => [])
    (fun s w' => Ext w3 w' ∧ w3.heap.size ≤ w'.heap.size ∧ s.1 ≤ X.rules.length ∧ OwnE encT w' w3.heap.size 33 (fun k => k < w.heap.size) s.2.1 s.2.2 ([X.ty] ++ (if lookB op X then [X.val] else []) ++ (X.rules.take s.1).map (·.b))) (fun s => X.rules.length - s.1) (0, A5, c5) (fun _ => ⟨rfl, rfl⟩)
    ⟨⟨rfl, by simp; rfl, trivial⟩, (by repeat (first | exact trivial | refine And.intro rfl ?_)), (by repeat (first | exact trivial | refine And.intro rfl ?_)), (by repeat (first | exact trivial | refine And.intro rfl ?_)), y5, q5, Nat.zero_le _, by simpa using o5⟩ ?_
  rintro ⟨i, A6, c6⟩ w6 hh6 ⟨y6, q6, hi, o6⟩
  simp only at hi o6
  have x16 : Ext w1 w6 := x3.trans y6
  refine Or.inl (And.intro (fun h => ?_) (fun h => ?_))
  · have hil : i < X.rules.length := by have := of_decide_eq_true h; simp only at this; omega
    obtain ⟨a, cr, ha, _, hrow, hR'⟩ := (hruY.ext x16).at hil
    have htk : X.rules.take (i + 1) = X.rules.take i ++ [X.rules[i]] := take_snoc _ _ hil
    generalize X.rules[i] = r at *
    obtain ⟨cb, rfl, hbo, hrf, hrc⟩ := hR'
    obtain ⟨kb, nb, sb, lsb, tsb, lab, lcb, tab, tcb, ebo, rfl, hkb, hnb, hsb, hllb, hltb, hLb, hTb⟩ := hbo.inv
    refine OpT.indexAddr Tryz.underlying34 Tryz.sizeOf84 rfl rfl ha (by first | omega | (simp only [lenOk] at *; omega)) ?_; refine Lands.v hh6 ?_
    refine OpT.loadA Tryz.isAgg33 (by exact Tryz.sizeOf33) rfl (hrow.sub 2 5 rfl) ?_; refine Lands.ret (s := .a [.v (.int .u8 kb), .v (.int .i64 nb), .v (.string sb), .v (.slice lab lsb.length lcb), .v (.slice tab tsb.length tcb)]) rfl rfl hh6 ?_
    refine OpT.buildE (E := encT) (R := (fun k => k < w.heap.size)) (vs := [_]) (l := [r.b]) Tryz.zeroValue33 (.cons rfl (.nil)) Tryz.underlying31 Tryz.sizeOf33 rfl rfl (Reps.cons hbo (Reps.nil _ _ _)) rfl rfl hh6 fun w9 g9 e9 x9 z9 o9 hh9 => ?_
    have hlen : ([X.ty] ++ (if lookB op X then [X.val] else []) ++ (X.rules.take (i + 1)).map (·.b)).length ≤ 1002 := by
      have h1 : (X.rules.take (i + 1)).length ≤ 1000 := by rw [List.length_take]; omega
      simp only [List.length_append, List.length_map]
      split <;> simp <;> omega
    refine OpT.appendO (E := encT) elT Tryz.underlying31 Tryz.underlying31 rfl rfl rfl rfl (l3 := [X.ty] ++ (if lookB op X then [X.val] else []) ++ (X.rules.take (i + 1)).map (·.b)) (by rw [htk]; simp) rfl o6 x9 o9 (by omega) (fun k hk => by have := hR k hk; omega) (y6.trans x9) (by omega) hh9 (by repeat (first | exact trivial | refine And.intro (by omega) ?_)) (by omega) fun w10 A10 c10 y10 z10 o10 hh10 => ?_
    refine vsd (by simp only [inKind]; omega) ?_
    exact Exists.intro ((i + 1, A10, c10)) ⟨by simp only; omega, esub_over (by repeat (first | exact trivial | refine And.intro rfl ?_)) (by repeat (first | exact trivial | refine And.intro rfl ?_)), hsub_over (by repeat (first | exact trivial | refine And.intro rfl ?_)) (by repeat (first | exact trivial | refine And.intro rfl ?_)), y10, by omega, hil, o10⟩
  obtain rfl : i = X.rules.length := by have := of_decide_eq_false h; simp only at this; omega
  clear h hi
  rw [List.take_length] at o6
  have o6 : OwnE encT w6 w3.heap.size 33 (fun k => k < w.heap.size) A6 c6 (useT op X) := o6
  rw [List.take_length]
  have hTs : ([X.ty] ++ (if lookB op X then [X.val] else []) ++ X.rules.map (·.b)).length = (useT op X).length := rfl
  rw [hTs]
  have hTm : ∀ t ∈ useT op X, mayT t = true := fun t ht => hmay t (useT_op ht)
  have hU := useN_T L op X
  generalize useT op X = ts at *
  have ho6 := o6.le
  refine vLoop_upd (σ := Nat × Option Addr × Nat × List ByteArray) [11, 12, 13, 14, 62, 63, 64, 65, 66, 67, 68, 69, 70, 71, 72, 73, 74, 75, 76, 77, 78, 79, 80, 81, 82, 83, 84] (fun s => [(12, .v (.int .i64 s.1)), (11, .v (.slice s.2.1 s.2.2.2.length s.2.2.1))]) [] (fun _ => [])
    (fun s w' => Ext w6 w' ∧ s.1 ≤ ts.length ∧ NS w' s.2.1 s.2.2.1 ((ts.take s.1).flatMap nms) s.2.2.2) (fun s => ts.length - s.1) (0, none, 0, []) (fun _ => ⟨rfl, rfl⟩)
    ⟨(by repeat (first | exact trivial | refine And.intro rfl ?_)), (by repeat (first | exact trivial | refine And.intro rfl ?_)), (by repeat (first | exact trivial | refine And.intro rfl ?_)), (by repeat (first | exact trivial | refine And.intro rfl ?_)), Ext.refl _, Nat.zero_le _, NS.nil _⟩ ?_
  rintro ⟨i, A7, c7, l7⟩ w7 hh7 ⟨x7, hi, ns7⟩
  simp only at hi ns7
  refine Or.inl (And.intro (fun h => ?_) (fun h => ?_))
  · have hil : i < ts.length := by have := of_decide_eq_true h; simp only at this; omega
    obtain ⟨a, ct, ha, _, hrow, hvt⟩ := (o6.ext x7).sl.at hil
    have htk : ts.take (i + 1) = ts.take i ++ [ts[i]] := take_snoc _ _ hil
    have hm := hTm _ (List.getElem_mem hil)
    have hfl : ((ts.take i).flatMap nms).length ≤ 65667072 := by
      have := flat_le (k := 65536) (l := ts.take i) fun t _ => nmsE_len t
      rw [List.length_take] at this
      have h3 : min i ts.length * 65536 ≤ 65667072 := Nat.mul_le_mul_right 65536 (show min i ts.length ≤ 1002 by omega)
      exact Nat.le_trans this h3
    generalize ts[i] = t at *
    have hvt0 : VT w7 _ ct t := hvt
    have hvt : VT w7 _ ct t := hvt
    obtain ⟨kq, nq, sq, lsq, tsq, laq, lcq, taq, tcq, eq, rfl, hkq, hnq, hsq, hllq, hltq, hLq, hTq⟩ := hvt.inv
    refine OpT.indexAddr Tryz.underlying31 Tryz.sizeOf33 rfl rfl ha (by first | omega | (simp only [lenOk] at *; omega)) ?_; refine Lands.v hh7 ?_
    refine OpT.loadA Tryz.isAgg33 (by exact Tryz.sizeOf33) rfl hrow ?_; refine Lands.ret (s := .a [.v (.int .u8 kq), .v (.int .i64 nq), .v (.string sq), .v (.slice laq lsq.length lcq), .v (.slice taq tsq.length tcq)]) rfl rfl hh7 ?_
    refine vcV (rNames_runs t _ w7 _ hvt0 hm) hh7 fun v8 w8 x8 z8 hh8 p8 => ?_
    obtain ⟨An, cn, rfl, hcn, sn⟩ := p8
    have hnl := nmsE_len t
    refine vLoop_upd (σ := Nat × Option Addr × Nat × List ByteArray) [11, 14, 73, 74, 75, 76, 77, 78, 79, 80, 81, 82, 83, 84] (fun s => [(14, .v (.int .i64 s.1)), (11, .v (.slice s.2.1 s.2.2.2.length s.2.2.1))]) [] (fun _ => [])
      (fun s w' => Ext w8 w' ∧ s.1 ≤ (nms t).length ∧ NS w' s.2.1 s.2.2.1 ((ts.take i).flatMap nms ++ (nms t).take s.1) s.2.2.2) (fun s => (nms t).length - s.1) (0, A7, c7, l7) (fun _ => ⟨rfl, rfl⟩)
      ⟨(by repeat (first | exact trivial | refine And.intro rfl ?_)), (by repeat (first | exact trivial | refine And.intro rfl ?_)), (by repeat (first | exact trivial | refine And.intro rfl ?_)), (by repeat (first | exact trivial | refine And.intro rfl ?_)), Ext.refl _, Nat.zero_le _, by simpa using ns7.ext x8⟩ ?_
    rintro ⟨k, A9, c9, l9⟩ w9 hh9 ⟨x9, hk, ns9⟩
    simp only at hk ns9
    clear h
    refine Or.inl (And.intro (fun h => ?_) (fun h => ?_))
    · have hkl : k < (nms t).length := by have := of_decide_eq_true h; simp only at this; omega
      obtain ⟨a1, cs1, ha1, _, hrow1, rfl, hsz1⟩ := (sn.ext x9).at hkl
      have htk1 := take_snoc' _ hkl
      generalize (nms t)[k] = nm at *
      have hlb : l9.length ≤ 8000000000000 := by
        have := ns9.set.le fun q hq => hq
        rw [List.length_append, List.length_take] at this
        omega
      refine OpT.indexAddr Tryz.underlying28 Tryz.sizeOf9 rfl rfl ha1 (by first | omega | (simp only [lenOk] at *; omega)) ?_; refine Lands.v hh9 ?_
      refine OpT.load Tryz.isAgg9 rfl (hrow1.cell 0 rfl) ?_; refine Lands.v hh9 ?_
      refine vcV (WithS_runs A9 c9 _ l9 nm w9 ns9 hlb hsz1) hh9 fun v10 w10 x10 z10 hh10 p10 => ?_
      obtain ⟨A10, c10, l10, rfl, ns10⟩ := p10
      refine vsd (by simp only [inKind]; simp only [lenOk] at *; omega) ?_
      exact Exists.intro ((k + 1, A10, c10, l10)) ⟨by simp only; omega, esub_over (by repeat (first | exact trivial | refine And.intro rfl ?_)) (by repeat (first | exact trivial | refine And.intro rfl ?_)), hsub_over (by repeat (first | exact trivial | refine And.intro rfl ?_)) (by repeat (first | exact trivial | refine And.intro rfl ?_)), x9.trans x10, hkl, by rw [htk1, ← List.append_assoc]; exact ns10⟩
    · obtain rfl : k = (nms t).length := by have := of_decide_eq_false h; simp only at this; omega
      rw [List.take_length] at ns9
      refine vsd (by simp only [inKind]; simp only [lenOk] at *; omega) ?_
      exact Exists.intro ((i + 1, A9, c9, l9)) ⟨by simp only; omega, esub_over (by repeat (first | exact trivial | refine And.intro rfl ?_)) (by repeat (first | exact trivial | refine And.intro rfl ?_)), hsub_over (by repeat (first | exact trivial | refine And.intro rfl ?_)) (by repeat (first | exact trivial | refine And.intro rfl ?_)), x7.trans (x8.trans x9), hil, by rw [htk, List.flatMap_append, List.flatMap_singleton]; exact ns9⟩
  obtain rfl : i = ts.length := by have := of_decide_eq_false h; simp only at this; omega
  clear h hi
  rw [List.take_length] at ns7
  have hfl : (ts.flatMap nms).length ≤ 65667072 := by
    have := flat_le (k := 65536) (l := ts) fun t _ => nmsE_len t
    have h3 : ts.length * 65536 ≤ 65667072 := Nat.mul_le_mul_right 65536 (show ts.length ≤ 1002 by omega)
    exact Nat.le_trans this h3
  generalize ts.flatMap nms = pre at *
  have y7 : Ext w w7 := (y3.trans y6).trans x7
  have x17 : Ext w1 w7 := x16.trans x7
  refine vJoin_upd (σ := Option Addr × Nat × List ByteArray) [11, 15, 88, 89, 90, 91, 92, 93, 94, 95, 96, 97, 98, 99, 100, 101, 102, 103, 104, 105, 106, 107, 108, 109, 110, 111, 112, 113, 114, 115, 116, 117, 118, 119, 120, 121] (fun s => [(11, .v (.slice s.1 s.2.2.length s.2.1))]) [] (fun _ => []) (fun s w' => Ext w7 w' ∧ NS w' s.1 s.2.1 (useN L op X) s.2.2) (fun _ => ⟨rfl, rfl⟩) (fun h => ?_) (fun h => ?_) ?_
  · have hb : ¬ X.block = noS := noS_ne h
    have hbs : X.block.size ≤ 9223372036854775807 := hokY.2.2.2.2.1
    have hlb : l7.length ≤ 8000000000000 := by
      have := ns7.set.le fun q hq => hq
      omega
    refine vcV (WithS_runs A7 c7 _ l7 X.block w7 ns7 hlb hbs) hh7 fun v8 w8 x8 z8 hh8 p8 => ?_
    obtain ⟨A8, c8, l8, rfl, ns8⟩ := p8
    refine vLoop_upd (σ := Nat × Option Addr × Nat × List ByteArray) [11, 15, 92, 93, 94, 95, 96, 97, 98, 99, 100, 101, 102, 103, 104, 105, 106, 107, 108, 109, 110, 111, 112, 113, 114, 115, 116, 117, 118, 119, 120, 121] (fun s => [(15, .v (.int .i64 s.1)), (11, .v (.slice s.2.1 s.2.2.2.length s.2.2.1))]) [] (fun _ => [])
      (fun s w' => Ext w7 w' ∧ s.1 ≤ L.length ∧ NS w' s.2.1 s.2.2.1 (pre ++ [X.block] ++ blkD (L.take s.1) X.block) s.2.2.2) (fun s => L.length - s.1) (0, A8, c8, l8) (fun _ => ⟨rfl, rfl⟩)
      ⟨(by repeat (first | exact trivial | refine And.intro rfl ?_)), (by repeat (first | exact trivial | refine And.intro rfl ?_)), (by repeat (first | exact trivial | refine And.intro rfl ?_)), (by repeat (first | exact trivial | refine And.intro rfl ?_)), x8, Nat.zero_le _, by simpa [blkD] using ns8⟩ ?_
    rintro ⟨i, A9, c9, l9⟩ w9 hh9 ⟨x9, hi, ns9⟩
    simp only at hi ns9
    have y9 : Ext w w9 := y7.trans x9
    clear h
    refine Or.inl (And.intro (fun h => ?_) (fun h => ?_))
    · have hil : i < L.length := by have := of_decide_eq_true h; simp only at this; omega
      obtain ⟨a1, cz, ha1, _, hrow, hvz⟩ := (hD.sl.ext y9).at hil
      have htk : L.take (i + 1) = L.take i ++ [L[i]] := take_snoc _ _ hil
      have hbl : (blkD (L.take i) X.block).length ≤ 4096 := by
        unfold blkD
        have := List.length_filter_le (fun y : Inf => decide (y.block = X.block)) (L.take i)
        rw [List.length_take] at this
        rw [List.length_map]; omega
      generalize L[i] = Z at *
      have hvz : VI w9 _ cz Z := hvz
      obtain ⟨ctZ, cvZ, raZ, rcZ, rfl, htyZ, hvlZ, hruZ, hrlZ, hokZ⟩ := hvz; obtain ⟨kZt, nZt, sZt, lsZt, tsZt, laZt, lcZt, taZt, tcZt, etyZ, rfl, hkZt, hnZt, hsZt, hllZt, hltZt, hLZt, hTZt⟩ := htyZ.inv; obtain ⟨kZv, nZv, sZv, lsZv, tsZv, laZv, lcZv, taZv, tcZv, evlZ, rfl, hkZv, hnZv, hsZv, hllZv, hltZv, hLZv, hTZv⟩ := hvlZ.inv
      refine vDrw_mk [] (.one 0 (.one 1 (.one 2 (.one 3 (.one 4 (.one 5 (.one 6 (.one 7 (.one 8 (.one 9 (.one 10 .nil))))))))))) rfl fun w10 x10 hh10 => ?_
      refine Exists.intro (.v (.pointer (some (a1.add (i * 25))))) (And.intro rfl (And.intro (fun w' xx hh => OpT.indexAddr Tryz.underlying22 Tryz.sizeOf36 rfl rfl ha1 (by omega) ⟨rfl, rfl⟩) ?_))
      refine Exists.intro (.v (.string Z.block)) (And.intro rfl (And.intro (fun w' xx hh => OpT.load Tryz.isAgg9 rfl ((hrow.ext (x10.trans xx)).cell 14 rfl) ⟨rfl, rfl⟩) ?_))
      clear h
      refine Or.inl (And.intro (fun h => ?_) (fun h => ?_))
      · have hb2 : Z.block = X.block := by simpa [sel] using h
        have hzs : Z.name.size ≤ 9223372036854775807 := hokZ.2.1
        refine OpT.indexAddr Tryz.underlying22 Tryz.sizeOf36 rfl rfl ha1 (by first | omega | (simp only [lenOk] at *; omega)) ?_; refine Lands.v hh10 ?_
        refine OpT.load Tryz.isAgg9 rfl ((hrow.ext x10).cell 1 rfl) ?_; refine Lands.v hh10 ?_
        have hlb : l9.length ≤ 8000000000000 := by
          have := ns9.set.le fun q hq => hq
          simp only [List.length_append, List.length_cons, List.length_nil] at this
          omega
        refine vcV (WithS_runs A9 c9 _ l9 Z.name w10 (ns9.ext x10) hlb hzs) hh10 fun v11 w11 x11 z11 hh11 p11 => ?_
        obtain ⟨A11, c11, l11, rfl, ns11⟩ := p11
        refine vsd (by simp only [inKind]; omega) ?_
        exact Exists.intro ((i + 1, A11, c11, l11)) ⟨by simp only; omega, esub_over (by repeat (first | exact trivial | refine And.intro rfl ?_)) (by repeat (first | exact trivial | refine And.intro rfl ?_)), hsub_over (by repeat (first | exact trivial | refine And.intro rfl ?_)) (by repeat (first | exact trivial | refine And.intro rfl ?_)), x9.trans (x10.trans x11), hil, ns11.congr fun q => by unfold blkD; rw [htk, List.filter_append, flt1 (p := fun y : Inf => decide (y.block = X.block)) (decide_eq_true hb2), List.map_append, List.map_singleton, List.append_assoc]⟩
      · have hb2 : ¬ Z.block = X.block := by simpa [sel] using h
        refine vsd (by simp only [inKind]; omega) ?_
        exact Exists.intro ((i + 1, A9, c9, l9)) ⟨by simp only; omega, esub_over (by repeat (first | exact trivial | refine And.intro rfl ?_)) (by repeat (first | exact trivial | refine And.intro rfl ?_)), hsub_over (by repeat (first | exact trivial | refine And.intro rfl ?_)) (by repeat (first | exact trivial | refine And.intro rfl ?_)), x9.trans x10, hil, (ns9.ext x10).congr fun q => by unfold blkD; rw [htk, List.filter_append, flt0 (p := fun y : Inf => decide (y.block = X.block)) (decide_eq_false hb2), List.append_nil]⟩
    · obtain rfl : i = L.length := by have := of_decide_eq_false h; simp only at this; omega
      rw [List.take_length] at ns9
      exact Exists.intro ((A9, c9, l9)) ⟨esub_over (by repeat (first | exact trivial | refine And.intro rfl ?_)) (by repeat (first | exact trivial | refine And.intro rfl ?_)), hsub_over (by repeat (first | exact trivial | refine And.intro rfl ?_)) (by repeat (first | exact trivial | refine And.intro rfl ?_)), x9, ns9.congr fun q => by rw [hU, if_neg hb, List.append_assoc]; exact List.mem_append.trans ((or_congr Iff.rfl (hG.blk X q)).trans List.mem_append.symm)⟩
  · have hb : X.block = noS := noS_eq h
    exact Exists.intro ((A7, c7, l7)) ⟨esub_over (by repeat (first | exact trivial | refine And.intro rfl ?_)) (by repeat (first | exact trivial | refine And.intro rfl ?_)), hsub_over (by repeat (first | exact trivial | refine And.intro rfl ?_)) (by repeat (first | exact trivial | refine And.intro rfl ?_)), Ext.refl _, ns7.congr fun q => by rw [hU, if_pos hb, List.append_nil]⟩
  rintro ⟨A8, c8, l8⟩ w8 hh8 ⟨x8, ns8⟩
  simp only at ns8
  have y8 : Ext w w8 := y7.trans x8
  have hu : usesL L op s = (useN L op X).filter fun q => decide (q ≠ s) := by unfold usesL; rw [hsm]
  have hlb : l8.length ≤ 70000000 := by
    have := ns8.set.le fun q hq => hq
    have := useN_len (L := L) (op := op) hrl hfew
    omega
  have hle := ns8.le
  have hF : ∀ k : Nat, (fun _ : Nat => False) k → k < w8.heap.size := fun k h => h.elim
  have q38 : w3.heap.size ≤ w8.heap.size := (y6.trans (x7.trans x8)).size
  refine vLoop_upd (σ := Nat × Option Addr × Nat) [16, 17, 122, 123, 124, 125, 126, 127, 128, 129, 130, 131, 132, 133, 134, 135, 136, 137, 138, 139, 140] (fun z => [(17, .v (.int .i64 z.1)), (16, .v (.slice z.2.1 ((l8.take z.1).filter fun q => decide (q ≠ s)).length z.2.2))]) [] (fun _ => [])
    (fun z w' => Ext w8 w' ∧ z.1 ≤ l8.length ∧ OwnE encS w' w8.heap.size 9 (fun _ => False) z.2.1 z.2.2 ((l8.take z.1).filter fun q => decide (q ≠ s))) (fun z => l8.length - z.1) (0, none, 0) (fun _ => ⟨rfl, rfl⟩)
    ⟨(by repeat (first | exact trivial | refine And.intro rfl ?_)), (by repeat (first | exact trivial | refine And.intro rfl ?_)), (by repeat (first | exact trivial | refine And.intro rfl ?_)), (by repeat (first | exact trivial | refine And.intro rfl ?_)), Ext.refl _, Nat.zero_le _, OwnE.nil _ _ _ _ _⟩ ?_
  rintro ⟨i, A9, c9⟩ w9 hh9 ⟨x9, hi, o9⟩
  simp only at hi o9
  have q9 := x9.size
  refine Or.inl (And.intro (fun h => ?_) (fun h => ?_))
  · have hil : i < l8.length := by have := of_decide_eq_true h; simp only at this; omega
    obtain ⟨a1, cs1, ha1, _, hrow, rfl, hsz1⟩ := (ns8.sl.ext x9).at hil
    have htk := take_snoc' _ hil
    generalize l8[i] = nm at *
    refine OpT.indexAddr Tryz.underlying28 Tryz.sizeOf9 rfl rfl ha1 (by first | omega | (simp only [lenOk] at *; omega)) ?_; refine Lands.v hh9 ?_
    refine OpT.load Tryz.isAgg9 rfl (hrow.cell 0 rfl) ?_; refine Lands.v hh9 ?_
    clear h
    refine Or.inl (And.intro (fun h => ?_) (fun h => ?_))
    · have hne : nm ≠ s := by simpa [sel] using h
      have hax : (l8.take (i + 1)).filter (fun q => decide (q ≠ s)) = (l8.take i).filter (fun q => decide (q ≠ s)) ++ [nm] := by rw [htk, List.filter_append, flt1 (p := fun q : ByteArray => decide (q ≠ s)) (decide_eq_true hne)]
      have hl1 := List.length_filter_le (fun q => decide (q ≠ s)) (l8.take (i + 1))
      rw [List.length_take] at hl1
      refine OpT.indexAddr Tryz.underlying28 Tryz.sizeOf9 rfl rfl ha1 (by first | omega | (simp only [lenOk] at *; omega)) ?_; refine Lands.v hh9 ?_
      refine OpT.load Tryz.isAgg9 rfl (hrow.cell 0 rfl) ?_; refine Lands.v hh9 ?_
      refine OpT.buildE (E := encS) (R := (fun _ => False)) (vs := [_]) (l := [nm]) Tryz.zeroValue9 (.cons rfl (.nil)) Tryz.underlying28 Tryz.sizeOf9 rfl rfl (Reps.cons (⟨rfl, hsz1⟩) (Reps.nil _ _ _)) rfl rfl hh9 fun w12 g12 e12 x12 z12 o12 hh12 => ?_
      refine OpT.appendO (E := encS) elS1 Tryz.underlying28 Tryz.underlying28 rfl rfl rfl rfl (l3 := (l8.take (i + 1)).filter fun q => decide (q ≠ s)) hax.symm rfl o9 x12 o12 (by omega) (fun k hk => by have := hF k hk; omega) (x9.trans x12) (by omega) hh12 (by repeat (first | exact trivial | refine And.intro (by omega) ?_)) (by omega) fun w13 A13 c13 y13 z13 o13 hh13 => ?_
      refine vsd (by simp only [inKind]; omega) ?_
      exact Exists.intro ((i + 1, A13, c13)) ⟨by simp only; omega, esub_over (by repeat (first | exact trivial | refine And.intro rfl ?_)) (by repeat (first | exact trivial | refine And.intro rfl ?_)), hsub_over (by repeat (first | exact trivial | refine And.intro rfl ?_)) (by repeat (first | exact trivial | refine And.intro rfl ?_)), y13, hil, o13⟩
    · have he : nm = s := by simpa [sel] using h
      have hax : (l8.take (i + 1)).filter (fun q => decide (q ≠ s)) = (l8.take i).filter (fun q => decide (q ≠ s)) := by rw [htk, List.filter_append, flt0 (p := fun q : ByteArray => decide (q ≠ s)) (decide_eq_false fun h => h he), List.append_nil]
      refine vsd (by simp only [inKind]; omega) ?_
      exact Exists.intro ((i + 1, A9, c9)) ⟨by simp only; omega, esub_over ⟨rfl, by rw [← hax]; rfl, trivial⟩ (by repeat (first | exact trivial | refine And.intro rfl ?_)), hsub_over (by repeat (first | exact trivial | refine And.intro rfl ?_)) (by repeat (first | exact trivial | refine And.intro rfl ?_)), x9, hil, by rw [hax]; exact o9⟩
  · obtain rfl : i = l8.length := by have := of_decide_eq_false h; simp only at this; omega
    rw [List.take_length] at o9
    have := y8.size
    refine ⟨y8.trans x9, A9, c9, _, by rw [List.take_length]; rfl, o9.lower (by omega), ?_, fun q => ?_⟩
    · exact ns8.set.1.filter _
    · show q ∈ l8.filter (fun q => decide (q ≠ s)) ↔ q ∈ usesL L op s
      rw [hu, List.mem_filter, List.mem_filter]; exact and_congr (ns8.set.2 q) Iff.rfl
end Go.Proofs.YtfljbnhhkdaobaaGreat

/-
  All on which names rest, and the axioms of a term, of the document.
-/
namespace Go.Proofs.YtfljbnhhkdaobaaGreat
open Go Go.RowKit Go.Proofs.Bw
set_option linter.unusedVariables false
set_option linter.unusedSimpArgs false
structure RO (w : World) (L : List Inf) (op : Bool) (ns : List ByteArray) (A : Option Addr) (c : Nat) (out : List ByteArray) : Prop where
  le : lenOk out.length c
  sl : Sl encS w (fun k => k < w.heap.size) A out
  rt : RT L op ns out
theorem RO.ext {w w' : World} {L : List Inf} {op : Bool} {ns : List ByteArray} {A : Option Addr} {c : Nat} {out : List ByteArray} (h : RO w L op ns A c out) (hx : Ext w w') : RO w' L op ns A c out :=
  ⟨h.le, (h.sl.ext hx).mono fun k hk => Nat.lt_of_lt_of_le hk hx.size, h.rt⟩
theorem RO.nil (w : World) (L : List Inf) (op : Bool) (ns : List ByteArray) : RO w L op ns none 0 [] := ⟨by simp [lenOk], Sl.nil _ _ _ _, List.Pairwise.nil, fun q h => by cases h⟩
set_option maxRecDepth 20000 in
theorem WithO_runs {L : List Inf} {op : Bool} {ns : List ByteArray} (A : Option Addr) (c : Nat) (out : List ByteArray) (s : ByteArray) (w : World) (h : RO w L op ns A c out) (hL : L.length ≤ 4096) (hr : Rch L op ns s) (hs : s.size ≤ 9223372036854775807) :
    Runs Tryz.prog 31 #[.slice A out.length c, .string s] w fun v w' => Ext w w' ∧ ∃ A' c' out', v = .slice A' out'.length c' ∧ RO w' L op ns A' c' out' ∧ (∀ q ∈ out, q ∈ out') ∧ s ∈ out' := by
  have hf := h.rt.few
  refine (With9_runs A out c s w h.sl (fun k hk => hk) h.le (by omega) hs).mono ?_
  rintro _ w' ⟨x, A', c', rfl, h1, h2⟩
  have hw := with_sub h.rt.ord s
  exact ⟨x, A', c', _, rfl, ⟨h1, h2, h.rt.more hr⟩, fun q hq => (hw q).2 (.inl hq), (hw s).2 (.inr rfl)⟩
set_option maxRecDepth 20000 in
set_option maxHeartbeats 4000000 in
theorem rrests_runs {M R2 : Nat → Prop} {lo : Nat} (op : Bool) (g : Nat) (Ad : Option Addr) (cd : Nat) (L : List Inf) (A : Option Addr) (c : Nat) (ns : List ByteArray) (w : World) (hD : RA w M lo g Ad cd L) (hG : NG L) (hl : Sl encS w R2 A ns) (hc : lenOk ns.length c) :
    Runs Tryz.prog 62 #[.pointer (some ⟨g, 0, none⟩), .slice A ns.length c, .bool op] w fun v w' => Ext w w' ∧ ∃ A c l, v = .slice A l.length c ∧ lenOk l.length c ∧ Sl encS w' (fun k => k < w'.heap.size) A l ∧ SetL (Rch L op ns) l := by
  refine Runs.of_vc (ρ := [g]) cx_ok [0, 1, 2, 6, 7, 8, 10, 11, 12, 13, 14, 15, 17, 21, 33, 48, 61, 73, 83] [.p 0 0, .v _, .v _] Tryz.func62 rfl rfl rfl (Holds.one (g := g) (cs := [.v (.slice Ad L.length cd)]) hD.box rfl) ?_
  have hfew := hD.few
  have hgl := hD.box.lt
  have hhD : Holds [g] [(0, [.v (.slice Ad L.length cd)])] w := Holds.one hD.box rfl
  refine vLoop_upd (σ := Nat × Option Addr × Nat × List ByteArray) [7, 8, 9, 10, 18, 19, 20, 21, 22, 23, 24, 25, 26, 27, 28, 29, 30, 31, 32, 33, 34, 35, 36, 37, 38, 39] (fun s => [(8, .v (.int .i64 s.1)), (7, .v (.slice s.2.1 s.2.2.2.length s.2.2.1))]) [] (fun _ => [])
    (fun s w' => Ext w w' ∧ s.1 ≤ ns.length ∧ RO w' L op ns s.2.1 s.2.2.1 s.2.2.2 ∧ ∀ q ∈ ns.take s.1, (findI L q).isSome = true → q ∈ s.2.2.2) (fun s => ns.length - s.1) (0, none, 0, []) (fun _ => ⟨rfl, rfl⟩)
    ⟨(by repeat (first | exact trivial | refine And.intro rfl ?_)), (by repeat (first | exact trivial | refine And.intro rfl ?_)), (by repeat (first | exact trivial | refine And.intro rfl ?_)), (by repeat (first | exact trivial | refine And.intro rfl ?_)), Ext.refl _, Nat.zero_le _, RO.nil _ _ _ _, fun q h => by simp at h⟩ ?_
  rintro ⟨i, A1, c1, o1⟩ w1 hh1 ⟨x1, hi, ro1, hin⟩
  simp only at hi ro1 hin
  refine Or.inl (And.intro (fun h => ?_) (fun h => ?_))
  · have hil : i < ns.length := by have := of_decide_eq_true h; simp only at this; omega
    obtain ⟨a1, cs1, ha1, _, hrow, rfl, hsz1⟩ := (hl.ext x1).at hil
    have htk := take_snoc' _ hil
    have hmem : ns[i] ∈ ns := List.getElem_mem hil
    generalize ns[i] = nm at *
    refine OpT.indexAddr Tryz.underlying28 Tryz.sizeOf9 rfl rfl ha1 (by first | omega | (simp only [lenOk] at *; omega)) ?_; refine Lands.v hh1 ?_
    refine OpT.load Tryz.isAgg9 rfl (hrow.cell 0 rfl) ?_; refine Lands.v hh1 ?_
    refine (rFind_runs g Ad cd L nm w1 (hD.ext x1).box (hD.ext x1).sl (by omega)).mono ?_
    rintro _ w2 ⟨x2, cs2, rfl, hv2⟩
    have hh2 := hh1.ext x2
    have z2 := x2.size
    generalize hZ : getI L nm = Z at *
    generalize hbz : (findI L nm).isSome = bz at *
    obtain ⟨ctV, cvV, raV, rcV, rfl, htyV, hvlV, hruV, hrlV, hokV⟩ := hv2; obtain ⟨kVt, nVt, sVt, lsVt, tsVt, laVt, lcVt, taVt, tcVt, etyV, rfl, hkVt, hnVt, hsVt, hllVt, hltVt, hLVt, hTVt⟩ := htyV.inv; obtain ⟨kVv, nVv, sVv, lsVv, tsVv, laVv, lcVv, taVv, tcVv, evlV, rfl, hkVv, hnVv, hsVv, hllVv, hltVv, hLVv, hTVv⟩ := hvlV.inv
    refine Lands.ret (s := .t [.a [.v (.int .u8 Z.kind), .v (.string Z.name), .v (.int .i64 Z.params), .v (.int .u8 kVt), .v (.int .i64 nVt), .v (.string sVt), .v (.slice laVt lsVt.length lcVt), .v (.slice taVt tsVt.length tcVt), .v (.int .u8 kVv), .v (.int .i64 nVv), .v (.string sVv), .v (.slice laVv lsVv.length lcVv), .v (.slice taVv tsVv.length tcVv), .v (.int .i64 Z.height), .v (.string Z.block), .v (.string Z.of_), .v (.int .i64 Z.fixed), .v (.int .i64 Z.index), .v (.int .i64 Z.no), .v (.int .i64 Z.fields), .v (.int .i64 Z.motives), .v (.int .i64 Z.minors), .v (.slice raV Z.rules.length rcV), .v (.int .i64 Z.ctors), .v (.bool Z.record)], .v (.bool bz)]) rfl rfl hh2 ?_
    intro g3 w3 e3 x3 z3 hh3; intro w4 m4 z4 hh4; replace m4 : Upd g3 w3 w4 := m4; have x4 : Ext w2 w4 := x3.upd m4 (by omega); have q4 := x4.size
    have x14 : Ext w1 w4 := x2.trans x4
    have hnext : ∀ (q : ByteArray), q ∈ ns.take (i + 1) → q ∈ ns.take i ∨ q = nm := fun q hq => by rw [htk] at hq; exact (List.mem_append.1 hq).imp id List.mem_singleton.1
    clear h
    refine Or.inl (And.intro (fun h => ?_) (fun h => ?_))
    · have hb : bz = true := by simpa [sel] using h
      subst hb
      refine OpT.indexAddr Tryz.underlying28 Tryz.sizeOf9 rfl rfl ha1 (by first | omega | (simp only [lenOk] at *; omega)) ?_; refine Lands.v hh4 ?_
      refine OpT.load Tryz.isAgg9 rfl ((hrow.ext x14).cell 0 rfl) ?_
      refine Lands.v hh4 ?_
      refine vcV (WithO_runs A1 c1 o1 nm w4 (ro1.ext x14) hfew (.base hmem hbz) hsz1) hh4 fun v5 w5 x5 z5 hh5 p5 => ?_
      obtain ⟨A5, c5, o5, rfl, ro5, hs5, hm5⟩ := p5
      refine vsd (by simp only [inKind]; simp only [lenOk] at *; omega) ?_
      exact Exists.intro ((i + 1, A5, c5, o5)) ⟨by simp only; omega, esub_over (by repeat (first | exact trivial | refine And.intro rfl ?_)) (by repeat (first | exact trivial | refine And.intro rfl ?_)), hsub_over (by repeat (first | exact trivial | refine And.intro rfl ?_)) (by repeat (first | exact trivial | refine And.intro rfl ?_)), x1.trans (x14.trans x5), hil, ro5, fun q hq hs => (hnext q hq).elim (fun h => hs5 q (hin q h hs)) fun h => h ▸ hm5⟩
    · have hb : bz = false := by simpa [sel] using h
      subst hb
      refine vsd (by simp only [inKind]; simp only [lenOk] at *; omega) ?_
      exact Exists.intro ((i + 1, A1, c1, o1)) ⟨by simp only; omega, esub_over (by repeat (first | exact trivial | refine And.intro rfl ?_)) (by repeat (first | exact trivial | refine And.intro rfl ?_)), hsub_over (by repeat (first | exact trivial | refine And.intro rfl ?_)) (by repeat (first | exact trivial | refine And.intro rfl ?_)), x1.trans x14, hil, ro1.ext x14, fun q hq hs => (hnext q hq).elim (fun h => hin q h hs) fun h => by rw [h, hbz] at hs; cases hs⟩
  obtain rfl : i = ns.length := by have := of_decide_eq_false h; simp only at this; omega
  clear h hi
  rw [List.take_length] at hin
  refine vLoop_upd (σ := Option Addr × Nat × List ByteArray) [6, 7, 11, 12, 13, 14, 15, 16, 17, 40, 41, 42, 43, 44, 45, 46, 47, 48, 49, 50, 51, 52, 53, 54, 55, 56, 57, 58, 59, 60, 61, 62, 63, 64, 65, 66, 67, 68, 69, 70, 71, 72, 73, 74, 75, 76, 77, 78, 79, 80, 81, 82, 83, 84] (fun s => [(7, .v (.slice s.1 s.2.2.length s.2.1))]) [] (fun _ => [])
    (fun s w' => Ext w w' ∧ RO w' L op ns s.1 s.2.1 s.2.2 ∧ ∀ q ∈ ns, (findI L q).isSome = true → q ∈ s.2.2) (fun s => L.length - s.2.2.length) (A1, c1, o1) (fun _ => ⟨rfl, rfl⟩)
    ⟨(by repeat (first | exact trivial | refine And.intro rfl ?_)), (by repeat (first | exact trivial | refine And.intro rfl ?_)), (by repeat (first | exact trivial | refine And.intro rfl ?_)), (by repeat (first | exact trivial | refine And.intro rfl ?_)), x1, ro1, hin⟩ ?_
  clear hin ro1 x1 hh1
  rintro ⟨A2, c2, now⟩ w2 hh2 ⟨x2, ro2, hin2⟩
  simp only at ro2 hin2
  have hf2 := ro2.rt.few
  have hg2 : g < w2.heap.size := Nat.lt_of_lt_of_le hgl x2.size
  have hn2 := ro2.le
  refine OpT.buildE (E := encS) (R := (fun k => k < w2.heap.size)) (vs := []) (l := []) Tryz.zeroValue9 (.nil) Tryz.underlying28 Tryz.sizeOf9 rfl rfl (Reps.nil _ _ _) rfl rfl hh2 fun w3 g3 e3 x3 z3 o3 hh3 => ?_
  refine OpT.appendL (E := encS) elS1 Tryz.underlying28 Tryz.underlying28 rfl rfl rfl rfl (l3 := now) (by simp) rfl o3 (Ext.refl w3) (ro2.sl.ext x3) (fun k hk _ => .inl hk) (fun k hk => by have := (fun k hk => hk) k hk; omega) x3 (by omega) hh3 (by repeat (first | exact trivial | refine And.intro (by omega) ?_)) (by omega) fun w4 A4 c4 y4 z4 o4 hh4 => ?_
  have x02 := x2.size
  refine vLoop_upd (σ := Nat × Option Addr × Nat × List ByteArray) [7, 13, 14, 15, 16, 17, 45, 46, 47, 48, 49, 50, 51, 52, 53, 54, 55, 56, 57, 58, 59, 60, 61, 62, 63, 64, 65, 66, 67, 68, 69, 70, 71, 72, 73, 74, 75, 76, 77, 78, 79] (fun s => [(13, .v (.int .i64 s.1)), (7, .v (.slice s.2.1 s.2.2.2.length s.2.2.1))]) [] (fun _ => [])
    (fun s w' => Ext w4 w' ∧ s.1 ≤ now.length ∧ RO w' L op ns s.2.1 s.2.2.1 s.2.2.2 ∧ (∀ q ∈ now, q ∈ s.2.2.2) ∧ ∀ a ∈ now.take s.1, ∀ q ∈ usesL L op a, (findI L q).isSome = true → q ∈ s.2.2.2) (fun s => now.length - s.1) (0, A2, c2, now) (fun _ => ⟨rfl, rfl⟩)
    ⟨(by repeat (first | exact trivial | refine And.intro rfl ?_)), (by repeat (first | exact trivial | refine And.intro rfl ?_)), (by repeat (first | exact trivial | refine And.intro rfl ?_)), (by repeat (first | exact trivial | refine And.intro rfl ?_)), Ext.refl _, Nat.zero_le _, ro2.ext y4, fun q h => h, fun a h => by simp at h⟩ ?_
  rintro ⟨i, A5, c5, o5'⟩ w5 hh5 ⟨x5, hi, ro5, hs5, hc5⟩
  simp only at hi ro5 hs5 hc5
  have y5 : Ext w w5 := x2.trans (y4.trans x5)
  refine Or.inl (And.intro (fun h => ?_) (fun h => ?_))
  · have hil : i < now.length := by have := of_decide_eq_true h; simp only at this; omega
    obtain ⟨a1, cs1, ha1, _, hrow, rfl, hsz1⟩ := (o4.ext x5).sl.at hil
    have htk := take_snoc' _ hil
    have hmem : now[i] ∈ now := List.getElem_mem hil
    generalize now[i] = a at *
    refine OpT.indexAddr Tryz.underlying28 Tryz.sizeOf9 rfl rfl ha1 (by first | omega | (simp only [lenOk] at *; omega)) ?_; refine Lands.v hh5 ?_
    refine OpT.load Tryz.isAgg9 rfl (hrow.cell 0 rfl) ?_; refine Lands.v hh5 ?_
    refine vcV (ruses_runs op g Ad cd L a w5 (hD.ext y5) hG) hh5 fun v6 w6 x6 z6 hh6 p6 => ?_
    obtain ⟨A6, c6, us, rfl, o6, hS6⟩ := p6
    have hra := ro2.rt.ok a hmem
    have hle6 := o6.le
    clear h
    refine vLoop_upd (σ := Nat × Option Addr × Nat × List ByteArray) [7, 15, 16, 17, 58, 59, 60, 61, 62, 63, 64, 65, 66, 67, 68, 69, 70, 71, 72, 73, 74, 75, 76, 77, 78, 79] (fun s => [(15, .v (.int .i64 s.1)), (7, .v (.slice s.2.1 s.2.2.2.length s.2.2.1))]) [] (fun _ => [])
      (fun s w' => Ext w6 w' ∧ s.1 ≤ us.length ∧ RO w' L op ns s.2.1 s.2.2.1 s.2.2.2 ∧ (∀ q ∈ o5', q ∈ s.2.2.2) ∧ ∀ q ∈ us.take s.1, (findI L q).isSome = true → q ∈ s.2.2.2) (fun s => us.length - s.1) (0, A5, c5, o5') (fun _ => ⟨rfl, rfl⟩)
      ⟨(by repeat (first | exact trivial | refine And.intro rfl ?_)), (by repeat (first | exact trivial | refine And.intro rfl ?_)), (by repeat (first | exact trivial | refine And.intro rfl ?_)), (by repeat (first | exact trivial | refine And.intro rfl ?_)), Ext.refl _, Nat.zero_le _, ro5.ext x6, fun q h => h, fun q h => by simp at h⟩ ?_
    rintro ⟨k, A7, c7, o7'⟩ w7 hh7 ⟨x7, hk, ro7, hs7, hc7⟩
    simp only at hk ro7 hs7 hc7
    have y7 : Ext w w7 := y5.trans (x6.trans x7)
    refine Or.inl (And.intro (fun h => ?_) (fun h => ?_))
    · have hkl : k < us.length := by have := of_decide_eq_true h; simp only at this; omega
      obtain ⟨a2, cs2, ha2, _, hrow2, rfl, hsz2⟩ := (o6.ext x7).sl.at hkl
      have htk2 := take_snoc' _ hkl
      have hmem2 : us[k] ∈ us := List.getElem_mem hkl
      generalize us[k] = nm at *
      refine OpT.indexAddr Tryz.underlying28 Tryz.sizeOf9 rfl rfl ha2 (by first | omega | (simp only [lenOk] at *; omega)) ?_; refine Lands.v hh7 ?_
      refine OpT.load Tryz.isAgg9 rfl (hrow2.cell 0 rfl) ?_; refine Lands.v hh7 ?_
      refine (rFind_runs g Ad cd L nm w7 (hD.ext y7).box (hD.ext y7).sl (by omega)).mono ?_
      rintro _ w8 ⟨x8, cs8, rfl, hv8⟩
      have hh8 := hh7.ext x8
      have z8 := x8.size
      generalize hZ : getI L nm = Z at *
      generalize hbz : (findI L nm).isSome = bz at *
      obtain ⟨ctV, cvV, raV, rcV, rfl, htyV, hvlV, hruV, hrlV, hokV⟩ := hv8; obtain ⟨kVt, nVt, sVt, lsVt, tsVt, laVt, lcVt, taVt, tcVt, etyV, rfl, hkVt, hnVt, hsVt, hllVt, hltVt, hLVt, hTVt⟩ := htyV.inv; obtain ⟨kVv, nVv, sVv, lsVv, tsVv, laVv, lcVv, taVv, tcVv, evlV, rfl, hkVv, hnVv, hsVv, hllVv, hltVv, hLVv, hTVv⟩ := hvlV.inv
      refine Lands.ret (s := .t [.a [.v (.int .u8 Z.kind), .v (.string Z.name), .v (.int .i64 Z.params), .v (.int .u8 kVt), .v (.int .i64 nVt), .v (.string sVt), .v (.slice laVt lsVt.length lcVt), .v (.slice taVt tsVt.length tcVt), .v (.int .u8 kVv), .v (.int .i64 nVv), .v (.string sVv), .v (.slice laVv lsVv.length lcVv), .v (.slice taVv tsVv.length tcVv), .v (.int .i64 Z.height), .v (.string Z.block), .v (.string Z.of_), .v (.int .i64 Z.fixed), .v (.int .i64 Z.index), .v (.int .i64 Z.no), .v (.int .i64 Z.fields), .v (.int .i64 Z.motives), .v (.int .i64 Z.minors), .v (.slice raV Z.rules.length rcV), .v (.int .i64 Z.ctors), .v (.bool Z.record)], .v (.bool bz)]) rfl rfl hh8 ?_
      intro g9 w9 e9 x9 z9 hh9; intro w10 m10 z10 hh10; replace m10 : Upd g9 w9 w10 := m10; have x10 : Ext w8 w10 := x9.upd m10 (by omega); have q10 := x10.size
      have x710 : Ext w7 w10 := x8.trans x10
      have hnext : ∀ (q : ByteArray), q ∈ us.take (k + 1) → q ∈ us.take k ∨ q = nm := fun q hq => by rw [htk2] at hq; exact (List.mem_append.1 hq).imp id List.mem_singleton.1
      clear h
      refine Or.inl (And.intro (fun h => ?_) (fun h => ?_))
      · have hb : bz = true := by simpa [sel] using h
        subst hb
        refine OpT.indexAddr Tryz.underlying28 Tryz.sizeOf9 rfl rfl ha2 (by first | omega | (simp only [lenOk] at *; omega)) ?_; refine Lands.v hh10 ?_
        refine OpT.load Tryz.isAgg9 rfl ((hrow2.ext x710).cell 0 rfl) ?_
        refine Lands.v hh10 ?_
        refine vcV (WithO_runs A7 c7 o7' nm w10 (ro7.ext x710) hfew (.step hra ((hS6.2 nm).1 hmem2) hbz) hsz2) hh10 fun v11 w11 x11 z11 hh11 p11 => ?_
        obtain ⟨A11, c11, o11, rfl, ro11, hs11, hm11⟩ := p11
        refine vsd (by simp only [inKind]; simp only [lenOk] at *; omega) ?_
        exact Exists.intro ((k + 1, A11, c11, o11)) ⟨by simp only; omega, esub_over (by repeat (first | exact trivial | refine And.intro rfl ?_)) (by repeat (first | exact trivial | refine And.intro rfl ?_)), hsub_over (by repeat (first | exact trivial | refine And.intro rfl ?_)) (by repeat (first | exact trivial | refine And.intro rfl ?_)), x7.trans (x710.trans x11), hkl, ro11, fun q hq => hs11 q (hs7 q hq), fun q hq hs => (hnext q hq).elim (fun h => hs11 q (hc7 q h hs)) fun h => h ▸ hm11⟩
      · have hb : bz = false := by simpa [sel] using h
        subst hb
        refine vsd (by simp only [inKind]; simp only [lenOk] at *; omega) ?_
        exact Exists.intro ((k + 1, A7, c7, o7')) ⟨by simp only; omega, esub_over (by repeat (first | exact trivial | refine And.intro rfl ?_)) (by repeat (first | exact trivial | refine And.intro rfl ?_)), hsub_over (by repeat (first | exact trivial | refine And.intro rfl ?_)) (by repeat (first | exact trivial | refine And.intro rfl ?_)), x7.trans x710, hkl, ro7.ext x710, hs7, fun q hq hs => (hnext q hq).elim (fun h => hc7 q h hs) fun h => by rw [h, hbz] at hs; cases hs⟩
    obtain rfl : k = us.length := by have := of_decide_eq_false h; simp only at this; omega
    rw [List.take_length] at hc7
    refine vsd (by simp only [inKind]; simp only [lenOk] at *; omega) ?_
    exact Exists.intro ((i + 1, A7, c7, o7')) ⟨by simp only; omega, esub_over (by repeat (first | exact trivial | refine And.intro rfl ?_)) (by repeat (first | exact trivial | refine And.intro rfl ?_)), hsub_over (by repeat (first | exact trivial | refine And.intro rfl ?_)) (by repeat (first | exact trivial | refine And.intro rfl ?_)), x5.trans (x6.trans x7), hil, ro7, fun q hq => hs7 q (hs5 q hq), fun b hb q hq hs => by rw [htk] at hb; exact (List.mem_append.1 hb).elim (fun hb => hs7 q (hc5 b hb q hq hs)) fun hb => by rw [List.mem_singleton] at hb; subst hb; exact hc7 q ((hS6.2 q).2 hq) hs⟩
  obtain rfl : i = now.length := by have := of_decide_eq_false h; simp only at this; omega
  clear h hi
  rw [List.take_length] at hc5
  have hin5 : ∀ q ∈ ns, (findI L q).isSome = true → q ∈ o5' := fun q h1 h2 => hs5 q (hin2 q h1 h2)
  refine Or.inl (And.intro (fun h => ?_) (fun h => ?_))
  · have hq : o5'.length = now.length := by
      have h' : ((o5'.length : Int) = now.length) := by simpa [sel] using h
      omega
    exact ⟨y5, A5, c5, o5', rfl, ro5.le, ro5.sl, rt_done ro5.rt hin5 ro2.rt.ord hs5 hq hc5⟩
  · have hq : ¬ o5'.length = now.length := fun e => by rw [e] at h; simp [sel] at h
    have hge := nodup_len ro2.rt.ord.nodup hs5
    have hf5 := ro5.rt.few
    exact Exists.intro ((A5, c5, o5')) ⟨by simp only; omega, esub_over (by repeat (first | exact trivial | refine And.intro rfl ?_)) (by repeat (first | exact trivial | refine And.intro rfl ?_)), hsub_over (by repeat (first | exact trivial | refine And.intro rfl ?_)) (by repeat (first | exact trivial | refine And.intro rfl ?_)), y5, ro5, hin5⟩
set_option maxRecDepth 20000 in
set_option maxHeartbeats 4000000 in
theorem rof_runs {M R2 : Nat → Prop} {lo : Nat} (op : Bool) (g : Nat) (Ad : Option Addr) (cd : Nat) (L : List Inf) (t : T) (cs : List Value) (w : World) (hD : RA w M lo g Ad cd L) (hG : NG L) (hv : VT w R2 cs t) (hm : mayT t = true) :
    Runs Tryz.prog 65 #[.pointer (some ⟨g, 0, none⟩), .agg cs.toArray, .bool op] w fun v w' => Ext w w' ∧ ∃ A c l, v = .slice A (axF L l).length c ∧ OwnE encS w' w.heap.size 9 (fun _ => False) A c (axF L l) ∧ SetL (Rch L op (nms t)) l := by
  have hv0 := hv
  obtain ⟨k, n, s, ls, ts, la, lc, ta, tc, et, rfl, hk, hn, hs, hll, hlt, hL, hT⟩ := hv.inv
  refine Runs.of_vc (ρ := [g]) cx_ok [0, 1, 2, 4, 6, 7, 8, 9, 10, 20, 34] [.p 0 0, .a [.v (.int .u8 k), .v (.int .i64 n), .v (.string s), .v (.slice la ls.length lc), .v (.slice ta ts.length tc)], .v _] Tryz.func65 rfl rfl rfl (Holds.one (g := g) (cs := [.v (.slice Ad L.length cd)]) hD.box rfl) ?_
  have hfew := hD.few
  have hgl := hD.box.lt
  intro g1 w1 e1 x1 z1 hh1
  refine vcV (rNames_runs t _ w1 R2 (hv0.ext x1) hm) hh1 fun v2 w2 x2 z2 hh2 p2 => ?_
  obtain ⟨A2, c2, rfl, hc2, sn⟩ := p2
  have y2 := x1.trans x2
  refine vcV (rrests_runs op g Ad cd L A2 c2 (nms t) w2 (hD.ext y2) hG sn hc2) hh2 fun v3 w3 x3 z3 hh3 p3 => ?_
  obtain ⟨A3, c3, rl, rfl, hc3, sl3, hS⟩ := p3
  have y3 := y2.trans x3
  have hlen : rl.length ≤ 4096 := by
    have := nodup_len hS.1.nodup fun q hq => findI_nm ((hS.2 q).1 hq).there
    rw [List.length_map] at this
    omega
  refine vLoop_upd (σ := Nat × Option Addr × Nat) [8, 9, 10, 11, 17, 18, 19, 20, 21, 22, 23, 24, 25, 26, 27, 28, 29, 30, 31, 32, 33, 34, 35, 36, 37, 38, 39, 40, 41] (fun s => [(9, .v (.int .i64 s.1)), (8, .v (.slice s.2.1 (axF L (rl.take s.1)).length s.2.2))]) [] (fun _ => [])
    (fun s w' => Ext w3 w' ∧ s.1 ≤ rl.length ∧ OwnE encS w' w3.heap.size 9 (fun _ => False) s.2.1 s.2.2 (axF L (rl.take s.1))) (fun s => rl.length - s.1) (0, none, 0) (fun _ => ⟨rfl, rfl⟩)
    ⟨⟨rfl, by simp [axF]; rfl, trivial⟩, (by repeat (first | exact trivial | refine And.intro rfl ?_)), (by repeat (first | exact trivial | refine And.intro rfl ?_)), (by repeat (first | exact trivial | refine And.intro rfl ?_)), Ext.refl _, Nat.zero_le _, by simpa [axF] using OwnE.nil _ _ _ _ _⟩ ?_
  rintro ⟨i, A8, c8⟩ w8 hh8 ⟨x8, hi, o8⟩
  simp only at hi o8
  have y8 := y3.trans x8
  have q8 := x8.size
  have q3 := y3.size
  refine Or.inl (And.intro (fun h => ?_) (fun h => ?_))
  · have hil : i < rl.length := by have := of_decide_eq_true h; simp only at this; omega
    obtain ⟨a1, cs1, ha1, _, hrow, rfl, hsz1⟩ := (sl3.ext x8).at hil
    have htk := take_snoc' _ hil
    generalize rl[i] = nm at *
    have hF : ∀ k : Nat, (fun _ : Nat => False) k → k < w3.heap.size := fun k h => h.elim
    refine OpT.indexAddr Tryz.underlying28 Tryz.sizeOf9 rfl rfl ha1 (by first | omega | (simp only [lenOk] at *; omega)) ?_; refine Lands.v hh8 ?_
    refine OpT.load Tryz.isAgg9 rfl (hrow.cell 0 rfl) ?_; refine Lands.v hh8 ?_
    refine (rFind_runs g Ad cd L nm w8 (hD.ext y8).box (hD.ext y8).sl (by omega)).mono ?_
    rintro _ w9 ⟨x9, cs9, rfl, hv9⟩
    have hh9 := hh8.ext x9
    have z9 := x9.size
    generalize hZ : getI L nm = Z at *
    generalize (findI L nm).isSome = bz at *
    obtain ⟨ctV, cvV, raV, rcV, rfl, htyV, hvlV, hruV, hrlV, hokV⟩ := hv9; obtain ⟨kVt, nVt, sVt, lsVt, tsVt, laVt, lcVt, taVt, tcVt, etyV, rfl, hkVt, hnVt, hsVt, hllVt, hltVt, hLVt, hTVt⟩ := htyV.inv; obtain ⟨kVv, nVv, sVv, lsVv, tsVv, laVv, lcVv, taVv, tcVv, evlV, rfl, hkVv, hnVv, hsVv, hllVv, hltVv, hLVv, hTVv⟩ := hvlV.inv
    refine Lands.ret (s := .t [.a [.v (.int .u8 Z.kind), .v (.string Z.name), .v (.int .i64 Z.params), .v (.int .u8 kVt), .v (.int .i64 nVt), .v (.string sVt), .v (.slice laVt lsVt.length lcVt), .v (.slice taVt tsVt.length tcVt), .v (.int .u8 kVv), .v (.int .i64 nVv), .v (.string sVv), .v (.slice laVv lsVv.length lcVv), .v (.slice taVv tsVv.length tcVv), .v (.int .i64 Z.height), .v (.string Z.block), .v (.string Z.of_), .v (.int .i64 Z.fixed), .v (.int .i64 Z.index), .v (.int .i64 Z.no), .v (.int .i64 Z.fields), .v (.int .i64 Z.motives), .v (.int .i64 Z.minors), .v (.slice raV Z.rules.length rcV), .v (.int .i64 Z.ctors), .v (.bool Z.record)], .v (.bool bz)]) rfl rfl hh9 ?_
    intro g10 w10 e10 x10 z10 hh10; intro w11 m11 z11 hh11; replace m11 : Upd g10 w10 w11 := m11; have x11 : Ext w9 w11 := x10.upd m11 (by omega); have q11 := x11.size
    have y11 : Ext w8 w11 := x9.trans x11
    clear h
    refine Or.inl (And.intro (fun h => ?_) (fun h => ?_))
    · have hk : Z.kind = 1 := by simpa [sel] using h
      have hax : axF L (rl.take (i + 1)) = axF L (rl.take i) ++ [nm] := by unfold axF; rw [htk, List.filter_append, flt1 (by rw [hZ]; exact decide_eq_true hk)]
      have hl1 : (axF L (rl.take i)).length ≤ 4096 := by have := List.length_filter_le (fun q => decide ((getI L q).kind = 1)) (rl.take i); rw [List.length_take] at this; unfold axF; omega
      refine OpT.indexAddr Tryz.underlying28 Tryz.sizeOf9 rfl rfl ha1 (by first | omega | (simp only [lenOk] at *; omega)) ?_; refine Lands.v hh11 ?_
      refine OpT.load Tryz.isAgg9 rfl ((hrow.ext y11).cell 0 rfl) ?_
      refine Lands.v hh11 ?_
      refine OpT.buildE (E := encS) (R := (fun _ => False)) (vs := [_]) (l := [nm]) Tryz.zeroValue9 (.cons rfl (.nil)) Tryz.underlying28 Tryz.sizeOf9 rfl rfl (Reps.cons (⟨rfl, hsz1⟩) (Reps.nil _ _ _)) rfl rfl hh11 fun w12 g12 e12 x12 z12 o12 hh12 => ?_
      refine OpT.appendO (E := encS) elS1 Tryz.underlying28 Tryz.underlying28 rfl rfl rfl rfl (l3 := axF L (rl.take (i + 1))) hax.symm rfl o8 (y11.trans x12) o12 (by omega) (fun k hk => by have := hF k hk; omega) (x8.trans (y11.trans x12)) (by omega) hh12 (by repeat (first | exact trivial | refine And.intro (by omega) ?_)) (by rw [hax, List.length_append, List.length_cons, List.length_nil]; omega) fun w13 A13 c13 y13 z13 o13 hh13 => ?_
      refine vsd (by simp only [inKind]; omega) ?_
      exact Exists.intro ((i + 1, A13, c13)) ⟨by simp only; omega, esub_over (by repeat (first | exact trivial | refine And.intro rfl ?_)) (by repeat (first | exact trivial | refine And.intro rfl ?_)), hsub_over (by repeat (first | exact trivial | refine And.intro rfl ?_)) (by repeat (first | exact trivial | refine And.intro rfl ?_)), y13, hil, o13⟩
    · have hk : ¬ Z.kind = 1 := by simpa [sel] using h
      have hax : axF L (rl.take (i + 1)) = axF L (rl.take i) := by unfold axF; rw [htk, List.filter_append, flt0 (by rw [hZ]; exact decide_eq_false hk), List.append_nil]
      refine vsd (by simp only [inKind]; omega) ?_
      exact Exists.intro ((i + 1, A8, c8)) ⟨by simp only; omega, esub_over ⟨rfl, by rw [← hax]; rfl, trivial⟩ (by repeat (first | exact trivial | refine And.intro rfl ?_)), hsub_over (by repeat (first | exact trivial | refine And.intro rfl ?_)) (by repeat (first | exact trivial | refine And.intro rfl ?_)), x8.trans y11, hil, by rw [hax]; exact o8.ext y11⟩
  · obtain rfl : i = rl.length := by have := of_decide_eq_false h; simp only at this; omega
    rw [List.take_length] at o8
    exact ⟨y8, A8, c8, rl, by rw [List.take_length]; rfl, o8.lower y3.size, hS⟩
set_option maxRecDepth 20000 in
theorem rUses_runs {M : Nat → Prop} {lo : Nat} (g : Nat) (Ad : Option Addr) (cd : Nat) (L : List Inf) (s : ByteArray) (w : World) (hD : RA w M lo g Ad cd L) (hG : NG L) :
    Runs Tryz.prog 24 #[.pointer (some ⟨g, 0, none⟩), .string s] w fun v w' => Ext w w' ∧ ∃ A c l, v = .slice A l.length c ∧ OwnE encS w' w.heap.size 9 (fun _ => False) A c l ∧ SetL (fun q => q ∈ usesL L false s) l := by
  refine Runs.of_vc (ρ := []) cx_ok [0, 1, 4] [.v _, .v _] Tryz.func24 rfl rfl rfl (Holds.nil w) ?_
  refine vcV (ruses_runs false g Ad cd L s w hD hG) (Holds.nil w) fun v1 w1 x1 z1 hh1 p1 => ?_
  obtain ⟨A1, c1, l, rfl, o1, h1⟩ := p1
  exact ⟨x1, A1, c1, l, rfl, o1, h1⟩
set_option maxRecDepth 20000 in
theorem rRests_runs {M R2 : Nat → Prop} {lo : Nat} (g : Nat) (Ad : Option Addr) (cd : Nat) (L : List Inf) (A : Option Addr) (c : Nat) (ns : List ByteArray) (w : World) (hD : RA w M lo g Ad cd L) (hG : NG L) (hl : Sl encS w R2 A ns) (hc : lenOk ns.length c) :
    Runs Tryz.prog 25 #[.pointer (some ⟨g, 0, none⟩), .slice A ns.length c] w fun v w' => Ext w w' ∧ ∃ A c l, v = .slice A l.length c ∧ lenOk l.length c ∧ Sl encS w' (fun k => k < w'.heap.size) A l ∧ SetL (Rch L false ns) l := by
  refine Runs.of_vc (ρ := []) cx_ok [0, 1, 4] [.v _, .v _] Tryz.func25 rfl rfl rfl (Holds.nil w) ?_
  refine vcV (rrests_runs false g Ad cd L A c ns w hD hG hl hc) (Holds.nil w) fun v1 w1 x1 z1 hh1 p1 => ?_
  obtain ⟨A1, c1, l, rfl, h1, h2, h3⟩ := p1
  exact ⟨x1, A1, c1, l, rfl, h1, h2, h3⟩
set_option maxRecDepth 20000 in
theorem rOf_runs {M R2 : Nat → Prop} {lo : Nat} (g : Nat) (Ad : Option Addr) (cd : Nat) (L : List Inf) (t : T) (cs : List Value) (w : World) (hD : RA w M lo g Ad cd L) (hG : NG L) (hv : VT w R2 cs t) (hm : mayT t = true) :
    Runs Tryz.prog 29 #[.pointer (some ⟨g, 0, none⟩), .agg cs.toArray] w fun v w' => Ext w w' ∧ ∃ A c l, v = .slice A (axF L l).length c ∧ OwnE encS w' w.heap.size 9 (fun _ => False) A c (axF L l) ∧ SetL (Rch L false (nms t)) l := by
  have hv0 := hv
  obtain ⟨k, n, s, ls, ts, la, lc, ta, tc, et, rfl, hk, hn, hs, hll, hlt, hL, hT⟩ := hv.inv
  refine Runs.of_vc (ρ := []) cx_ok [0, 1, 3, 4] [.v _, .a [.v (.int .u8 k), .v (.int .i64 n), .v (.string s), .v (.slice la ls.length lc), .v (.slice ta ts.length tc)]] Tryz.func29 rfl rfl rfl (Holds.nil w) ?_
  intro g1 w1 e1 x1 z1 hh1
  refine vcV (rof_runs false g Ad cd L t _ w1 (hD.ext x1) hG (hv0.ext x1) hm) hh1 fun v2 w2 x2 z2 hh2 p2 => ?_
  obtain ⟨A2, c2, l, rfl, o2, h2⟩ := p2
  exact ⟨x1.trans x2, A2, c2, l, rfl, o2.lower x1.size, h2⟩
set_option maxRecDepth 20000 in
theorem rOpaque_runs {M R2 : Nat → Prop} {lo : Nat} (g : Nat) (Ad : Option Addr) (cd : Nat) (L : List Inf) (t : T) (cs : List Value) (w : World) (hD : RA w M lo g Ad cd L) (hG : NG L) (hv : VT w R2 cs t) (hm : mayT t = true) :
    Runs Tryz.prog 30 #[.pointer (some ⟨g, 0, none⟩), .agg cs.toArray] w fun v w' => Ext w w' ∧ ∃ A c l, v = .slice A (axF L l).length c ∧ OwnE encS w' w.heap.size 9 (fun _ => False) A c (axF L l) ∧ SetL (Rch L true (nms t)) l := by
  have hv0 := hv
  obtain ⟨k, n, s, ls, ts, la, lc, ta, tc, et, rfl, hk, hn, hs, hll, hlt, hL, hT⟩ := hv.inv
  refine Runs.of_vc (ρ := []) cx_ok [0, 1, 3, 4] [.v _, .a [.v (.int .u8 k), .v (.int .i64 n), .v (.string s), .v (.slice la ls.length lc), .v (.slice ta ts.length tc)]] Tryz.func30 rfl rfl rfl (Holds.nil w) ?_
  intro g1 w1 e1 x1 z1 hh1
  refine vcV (rof_runs true g Ad cd L t _ w1 (hD.ext x1) hG (hv0.ext x1) hm) hh1 fun v2 w2 x2 z2 hh2 p2 => ?_
  obtain ⟨A2, c2, l, rfl, o2, h2⟩ := p2
  exact ⟨x1.trans x2, A2, c2, l, rfl, o2.lower x1.size, h2⟩
end Go.Proofs.YtfljbnhhkdaobaaGreat

/-
  AxiomsPlays.
-/
namespace Go.Proofs.YtfljbnhhkdaobaaGreat
open Go Go.RowKit Go.Proofs.Bw
set_option linter.unusedVariables false
set_option linter.unusedSimpArgs false
theorem Same9_sl {R R' : Nat → Prop} {A B : Option Addr} {c d : Nat} {l : List ByteArray} (w : World) (hl : Sl encS w R A l) (h1 : lenOk l.length c) (hm : Sl encS w R' B l) (h2 : lenOk l.length d) :
    Runs Tryz.prog 19 #[.slice A l.length c, .slice B l.length d] w fun v w' => v = .bool true ∧ Ext w w' :=
  (Same9_runs A B c d l l w hl hm h1 h2).mono fun v w' ⟨h1, h2⟩ => ⟨by rw [h1, decide_eq_true rfl], h2⟩
set_option maxHeartbeats 8000000 in
set_option maxRecDepth 20000 in
theorem plays9_runs {R0 Rt Rn : Nat → Prop} (A0 : Option Addr) (l : List Inf) (c0 : Nat) (t : T) (ct : List Value) (An : Option Addr) (ns : List ByteArray) (cn : Nat) (w : World) (hl0 : Sl encInf w R0 A0 l) (hB : lenOk l.length c0) (ht : VT w Rt ct t) (hn0 : Sl encS w Rn An ns) (hcn : lenOk ns.length cn) :
    Runs Tryz.prog 4 #[.slice A0 l.length c0, .agg ct.toArray, .slice An ns.length cn] w fun v w' => v = .bool true ∧ Ext w w' := by
  have hl := hl0.small.mono (R' := fun k => k < w.heap.size) fun k h => h.2
  have hn := hn0.small.mono (R' := fun k => k < w.heap.size) fun k h => h.2
  have ht0 := ht
  obtain ⟨kt, nt, st, lst, tst, lat, lct, tat, tct, et, rfl, hkt, hnt, hst, hllt, hltt, hLt, hTt⟩ := ht.inv
  refine Runs.of_vc (ρ := []) cx_ok [0, 1, 2, 4, 6, 7, 8, 9, 10, 22, 31, 35, 43, 58, 68, 71] [.v _, .a [.v (.int .u8 kt), .v (.int .i64 nt), .v (.string st), .v (.slice lat lst.length lct), .v (.slice tat tst.length tct)], .v _] Tryz.func4 rfl rfl rfl (Holds.nil w) ?_
  intro g1 w1 e1 x1 z1 hh1
  refine vcZ (Few_runs A0 l c0 w1 (hl.ext x1) hB) hh1 fun w2 x2 z2 hh2 => ?_
  have y2 := x1.trans x2
  generalize hfw : fewB l = fw at *
  refine Or.inl (Exists.intro (.bool (isDeep t)) (And.intro (fun _ => rDeep_runs t _ w2 _ (ht0.ext y2)) (fun w3 x3 hh3 => ?_)))
  have y3 := y2.trans x3
  have q3 := y3.size
  generalize isDeep t = dt at *
  refine Or.inl (And.intro (fun h => ?_) (fun h => ?_))
  · refine vcZ (works9_runs w3) hh3 fun w4 x4 z4 hh4 => ?_
    exact ⟨rfl, y3.trans x4⟩
  have hg : fw = true ∧ ns.length ≤ 10 := by
    cases fw <;> cases dt <;> simp [sel] at h ⊢
    omega
  obtain ⟨rfl, hnl⟩ := hg
  clear h
  obtain ⟨hlen, hrls⟩ := few_le hfw
  refine (both_runs A0 l c0 w3 (hl.ext y3) (fun k hk => by omega) hB hlen (fun x hx => by have := hrls x hx; omega)).mono ?_
  rintro _ w4 ⟨x4, e, m, g, A, c, Ad, cd, rfl, hE, hD, _⟩
  have hh4 := hh3.ext x4
  have hG := envP_NG l (fun x hx => by have := hrls x hx; omega) l.length (Nat.le_refl _)
  generalize envP l l.length = L at *
  have hV : EnvV w4 (some ⟨e, 0, none⟩) L := .inr ⟨_, _, _, _, _, _, rfl, hE⟩
  generalize mine e m A = M at *
  clear hE
  generalize hp : (some ⟨e, 0, none⟩ : Option Addr) = p at *
  refine Lands.ret (s := .t [.v (.pointer p), .v (.pointer (some ⟨g, 0, none⟩)), .v (.bool true)]) rfl rfl hh4 ?_
  refine Or.inl (And.intro (fun hx => nomatch (rfl).symm.trans hx) (fun _ => ?_))
  have y4 := y3.trans x4
  refine vLoop_upd (σ := Nat) [6, 10, 32, 33, 34, 35, 36, 37, 38, 39, 40, 41, 42, 43, 44, 45, 46, 47, 48, 49, 50, 51, 52, 53, 54, 55, 56, 57, 58] (fun i => [(10, .v (.int .i64 i))]) [] (fun _ => []) (fun i w' => Ext w4 w' ∧ i ≤ ns.length) (fun i => ns.length - i) 0 (fun _ => ⟨rfl, rfl⟩)
    ⟨(by repeat (first | exact trivial | refine And.intro rfl ?_)), (by repeat (first | exact trivial | refine And.intro rfl ?_)), (by repeat (first | exact trivial | refine And.intro rfl ?_)), (by repeat (first | exact trivial | refine And.intro rfl ?_)), Ext.refl _, Nat.zero_le _⟩ ?_
  rintro i w5 hh5 ⟨x5, hi⟩
  refine Or.inl (And.intro (fun h => ?_) (fun h => ?_))
  · have hil : i < ns.length := by have := of_decide_eq_true h; omega
    obtain ⟨a1, cs1, ha1, _, hrow, rfl, hsz1⟩ := (hn.ext (y4.trans x5)).at hil
    generalize ns[i] = nm at *
    refine OpT.indexAddr Tryz.underlying28 Tryz.sizeOf9 rfl rfl ha1 (by first | omega | (simp only [lenOk] at *; omega)) ?_; refine Lands.v hh5 ?_
    refine OpT.load Tryz.isAgg9 rfl (hrow.cell 0 rfl) ?_; refine Lands.v hh5 ?_
    clear h
    refine Or.inl (And.intro (fun h => ?_) (fun h => ?_))
    · refine vcZ (works9_runs w5) hh5 fun w6 x6 z6 hh6 => ?_
      exact ⟨rfl, (y4.trans x5).trans x6⟩
    refine vDrw_mk [5, 11, 12] (.one 0 (.one 1 (.one 2 (.one 3 (.one 4 (.one 6 (.one 7 (.one 8 (.one 9 (.one 10 (.one 5 (.one 11 (.one 12 (.one 13 .nil)))))))))))))) rfl fun w6 x6 hh6 => ?_
    refine Exists.intro (.v (.pointer (some (a1.add (i * 1))))) (And.intro rfl (And.intro (fun w' xx hh => OpT.indexAddr Tryz.underlying28 Tryz.sizeOf9 rfl rfl ha1 (by omega) ⟨rfl, rfl⟩) ?_))
    refine Exists.intro (.v (.string nm)) (And.intro rfl (And.intro (fun w' xx hh => OpT.load Tryz.isAgg9 rfl ((hrow.ext (x6.trans xx)).cell 0 rfl) ⟨rfl, rfl⟩) ?_))
    refine Exists.intro (.v (.pointer (some (a1.add (i * 1))))) (And.intro rfl (And.intro (fun w' xx hh => OpT.indexAddr Tryz.underlying28 Tryz.sizeOf9 rfl rfl ha1 (by omega) ⟨rfl, rfl⟩) ?_))
    refine Exists.intro (.v (.string nm)) (And.intro rfl (And.intro (fun w' xx hh => OpT.load Tryz.isAgg9 rfl ((hrow.ext (x6.trans xx)).cell 0 rfl) ⟨rfl, rfl⟩) ?_))
    refine vcV (Uses_runs p L nm w6 (hV.ext (x5.trans x6)) hsz1) hh6 fun v7 w7 x7 z7 hh7 p7 => ?_
    obtain ⟨A7, c7, l7, rfl, o7, S7⟩ := p7
    refine And.intro x7 ?_
    refine vcV (rUses_runs g Ad cd L nm w7 (hD.ext (x5.trans (x6.trans x7))) hG) hh7 fun v8 w8 x8 z8 hh8 p8 => ?_
    obtain ⟨A8, c8, l8, rfl, o8, S8⟩ := p8
    obtain rfl : l7 = l8 := S7.unique S8 fun _ => Iff.rfl
    refine vcZ (Same9_eq w8 o7 x8 o8 (Ext.refl _)) hh8 fun w9 x9 z9 hh9 => ?_
    refine Or.inl (And.intro (fun hx => nomatch (rfl).symm.trans hx) (fun _ => ?_))
    refine vsd (by simp only [inKind]; omega) ?_
    exact Exists.intro (i + 1) ⟨by omega, esub_over (by repeat (first | exact trivial | refine And.intro rfl ?_)) (by repeat (first | exact trivial | refine And.intro rfl ?_)), hsub_over (by repeat (first | exact trivial | refine And.intro rfl ?_)) (by repeat (first | exact trivial | refine And.intro rfl ?_)), x5.trans (x6.trans (x7.trans (x8.trans x9))), hil⟩
  clear h hi
  have y5 := y4.trans x5
  have q5 := y5.size
  have hg1 : g1 < w5.heap.size := by have := (x2.trans (x3.trans (x4.trans x5))).size; omega
  refine OpT.buildE (E := encS) (R := (fun k => k < w5.heap.size)) (vs := []) (l := []) Tryz.zeroValue9 (.nil) Tryz.underlying28 Tryz.sizeOf9 rfl rfl (Reps.nil _ _ _) rfl rfl hh5 fun w6 g6 e6 x6 z6 o6 hh6 => ?_
  refine OpT.appendL (E := encS) elS1 Tryz.underlying28 Tryz.underlying28 rfl rfl rfl rfl (l3 := ns) (by simp) rfl o6 (Ext.refl w6) (hn.ext (y5.trans x6)) (fun k hk _ => .inl (by omega)) (fun k hk => by have := (fun k hk => hk) k hk; omega) x6 (by omega) hh6 (by repeat (first | exact trivial | refine And.intro (by omega) ?_)) (by omega) fun w7 A7 c7 y7 z7 o7 hh7 => ?_
  refine vcV (Rests_runs p L _ _ ns w7 (hV.ext (x5.trans y7)) o7.sl (fun k hk => hk.2) (by omega)) hh7 fun v8 w8 x8 z8 hh8 p8 => ?_
  obtain ⟨A8, c8, l8, rfl, o8, S8⟩ := p8
  refine vcV (rRests_runs g Ad cd L An cn ns w8 (hD.ext (x5.trans (y7.trans x8))) hG (hn.ext (y5.trans (y7.trans x8))) hcn) hh8 fun v9 w9 x9 z9 hh9 p9 => ?_
  obtain ⟨A9, c9, l9, rfl, hc9, sl9, S9⟩ := p9
  obtain rfl : l8 = l9 := S8.unique S9 fun _ => Iff.rfl
  refine vcZ (Same9_sl w9 (o8.ext x9).sl o8.le sl9 hc9) hh9 fun w10 x10 z10 hh10 => ?_
  refine Or.inl (And.intro (fun hx => nomatch (rfl).symm.trans hx) (fun _ => ?_))
  have x410 : Ext w4 w10 := x5.trans (y7.trans (x8.trans (x9.trans x10)))
  have y10 : Ext w w10 := y4.trans x410
  refine vcZ (rMay_runs t _ w10 _ (ht0.ext y10)) hh10 fun w11 x11 z11 hh11 => ?_
  have x411 := x410.trans x11
  have y11 := y10.trans x11
  cases hm : mayT t with
  | false =>
    refine Or.inl (And.intro (fun _ => ?_) (fun hx => nomatch (rfl).symm.trans hx))
    have hno : nms t = [] := by unfold nms nmsT; rw [if_neg (by rw [hm]; decide)]; rfl
    have hn0 : ∀ op q, ¬ Rch L op (nms t) q := fun op q h => by
      induction h with
      | base h1 _ => rw [hno] at h1; cases h1
      | step _ _ _ ih => exact ih
    refine vDrw_mk [2, 6, 11] (.one 0 (.one 1 (.one 4 (.one 5 (.one 2 (.one 3 (.one 6 (.one 7 (.one 8 (.one 9 (.one 10 (.one 11 (.one 12 (.one 13 .nil)))))))))))))) rfl fun w12 x12 hh12 => ?_
    refine vcV (Of_runs p L t _ w12 (hV.ext (x411.trans x12)) (ht0.ext (y11.trans x12))) hh12 fun v13 w13 x13 z13 hh13 p13 => ?_
    obtain ⟨A13, c13, l13, f13, o13, S13⟩ := p13
    obtain rfl := set_nil S13 (hn0 _)
    subst f13
    refine And.intro x13 ?_
    refine vcV (Opaque_runs p L t _ w13 (hV.ext (x411.trans (x12.trans x13))) (ht0.ext (y11.trans (x12.trans x13)))) hh13 fun v14 w14 x14 z14 hh14 p14 => ?_
    obtain ⟨A14, c14, l14, f14, o14, S14⟩ := p14
    obtain rfl := set_nil S14 (hn0 _)
    subst f14
    refine And.intro x14 ?_
    refine vsd (by simp [inKind, axF]) ?_
    refine Or.inl (Exists.intro (.bool true) (And.intro (fun _ => works9_runs w14) (fun w15 x15 hh15 => ?_)))
    exact ⟨rfl, y11.trans (x12.trans (x13.trans (x14.trans x15)))⟩
  | true =>
    refine Or.inl (And.intro (fun hx => nomatch (rfl).symm.trans hx) (fun _ => ?_))
    refine vDrw_mk [2, 5, 6, 10, 13, 14, 17] (.one 0 (.one 1 (.one 3 (.one 4 (.one 2 (.one 5 (.one 6 (.one 7 (.one 8 (.one 9 (.one 11 (.one 12 (.one 10 (.one 13 (.one 14 (.one 15 (.one 16 (.one 17 (.one 18 (.one 19 .nil)))))))))))))))))))) rfl fun w12 x12 hh12 => ?_
    refine vcV (Of_runs p L t _ w12 (hV.ext (x411.trans x12)) (ht0.ext (y11.trans x12))) hh12 fun v13 w13 x13 z13 hh13 p13 => ?_
    obtain ⟨A13, c13, l13, rfl, o13, S13⟩ := p13
    refine And.intro x13 ?_
    have x413 := x411.trans (x12.trans x13)
    have y13 := y11.trans (x12.trans x13)
    refine vcV (rOf_runs g Ad cd L t _ w13 (hD.ext x413) hG (ht0.ext y13) hm) hh13 fun v14 w14 x14 z14 hh14 p14 => ?_
    obtain ⟨A14, c14, l14, rfl, o14, S14⟩ := p14
    obtain rfl : l13 = l14 := S13.unique S14 fun _ => Iff.rfl
    refine vcZ (Same9_eq w14 o13 x14 o14 (Ext.refl _)) hh14 fun w15 x15 z15 hh15 => ?_
    have x415 := x413.trans (x14.trans x15)
    have y15 := y13.trans (x14.trans x15)
    refine vyes rfl ?_
    refine vcV (Opaque_runs p L t _ w15 (hV.ext x415) (ht0.ext y15)) hh15 fun v16 w16 x16 z16 hh16 p16 => ?_
    obtain ⟨A16, c16, l16, rfl, o16, S16⟩ := p16
    refine And.intro x16 ?_
    have x416 := x415.trans x16
    have y16 := y15.trans x16
    refine vyes rfl ?_
    refine vcV (rOpaque_runs g Ad cd L t _ w16 (hD.ext x416) hG (ht0.ext y16) hm) hh16 fun v17 w17 x17 z17 hh17 p17 => ?_
    obtain ⟨A17, c17, l17, rfl, o17, S17⟩ := p17
    obtain rfl : l16 = l17 := S16.unique S17 fun _ => Iff.rfl
    refine Or.inl (Exists.intro (.bool true) (And.intro (fun _ => Same9_eq w17 o16 x17 o17 (Ext.refl _)) (fun w18 x18 hh18 => ?_)))
    refine Or.inl (Exists.intro (.bool true) (And.intro (fun _ => works9_runs w18) (fun w19 x19 hh19 => ?_)))
    exact ⟨rfl, y16.trans (x17.trans (x18.trans x19))⟩
end Go.Proofs.YtfljbnhhkdaobaaGreat

/-
  The row of AxiomsPlays: true for every input.
-/
namespace Go.Proofs.YtfljbnhhkdaobaaGreat
open Go Go.ChangeMaps Go.ChangeShapes Go.WideShapes Go.ChangeAt Go.RowKit Go.Proofs.Bw
theorem Tryz.own : ownKnob Tryz.prog.godebug = none := by kernel_rfl
theorem Tryz.laidOut : laidOutB Tryz.prog = true := by kernel_rfl
set_option maxRecDepth 100000 in
theorem plays9_lifted (os : Os) (started : os.Started) (H : Type) (enc : TypeId × Value → H) :
    ReturnsInHanded {} Tryz.checked os 4 .any (Rows.axiomsPlaysSpec.pre6 enc Tryz.prog Tryz.f4 Rows.axiomsPlaysRow.domain false) (Rows.axiomsPlaysSpec.post enc Tryz.prog Tryz.f4 false true false false) := by
  refine returnsInHanded_of_change_sized (C := Tryz.checked) Tryz.own started (by kernel_rfl) Tryz.func4
    (ChangeSpec.witness6 (enc := enc) (C := Tryz.checked) false ⟨#[], #[.slice none 0 0, .agg #[.int .u8 0, .int .i64 0, .string ⟨#[]⟩, .slice none 0 0, .slice none 0 0], .slice none 0 0], []⟩ 8 (by kernel_rfl) (by kernel_rfl) (by kernel_rfl) (by kernel_rfl)) ?_
  intro W base args ds gs before hval0 hW hcnd hsz0 _
  have hval : ∀ (j : Nat) t v, Tryz.f4.params[j]? = some t → args[j]? = some v → Value.okWide Tryz.prog W .any base t v := hval0
  have hW' := hW
  obtain ⟨p, q, hA0, hV, rfl, hfz, hnd⟩ := hW
  have hA : DataW.TrodAll enc Tryz.prog W 0 (fun _ => true) true Tryz.f4.params.toList args.toList ds p := hA0
  have hsz : (DataW.weightsEach Tryz.prog (Tryz.f4.params.toList ++ Rows.axiomsPlaysSpec.plain.varTypes Tryz.prog) (ds ++ gs)).all (· ≤ reachBytes) = true := hsz0
  rw [Tryz.params4] at hA hval hsz
  obtain ⟨v0, v1, v2, d0, d1, d2, p0, p1, p2, rfl, rfl, rfl, h0, h1, h2⟩ := trodAll_three hA
  obtain ⟨rfl, rfl⟩ := trodVars_none hV
  obtain ⟨A0, len0, cap0, rfl⟩ := okWide_slice Tryz.underlying22 (hval 0 22 v0 rfl rfl)
  obtain ⟨ca1, rfl, hca1⟩ := okWide_struct Tryz.underlying33 (hval 1 33 v1 rfl rfl)
  obtain ⟨A2, len2, cap2, rfl⟩ := okWide_slice Tryz.underlying28 (hval 2 28 v2 rfl rfl)
  clear hA0 hval0
  have hlt := hW'.lt
  obtain ⟨fu0, k0⟩ := h0
  obtain ⟨A', ts0, c, e1, hl0, hS0⟩ := open_SI k0
  simp only [Value.cells, List.cons.injEq, Value.slice.injEq, and_true] at e1
  obtain ⟨rfl, rfl, rfl⟩ := e1
  obtain ⟨fu1, k1⟩ := h1
  obtain ⟨t1, hv1⟩ := open_T fu1 _ _ k1
  obtain ⟨fu2, k2⟩ := h2
  obtain ⟨A', l2, c, e1, hl2, hS2⟩ := open_SS k2
  simp only [Value.cells, List.cons.injEq, Value.slice.injEq, and_true] at e1
  obtain ⟨rfl, rfl, rfl⟩ := e1
  have hrun := plays9_runs A0 ts0 cap0 t1 ca1.toList A2 l2 cap2 W hS0 hl0 hv1 hS2 hl2
  simp only [Array.toArray_toList] at hrun
  refine Calls.mono (hrun) ?_
  rintro e W' ⟨v, rfl, rfl, hx⟩
  have hb := hx.below
  refine ⟨_, rfl, _, _, _, [], _, [], hW', trodAll_mk1 (shut_bool Tryz.underlying4 true),
    trodAll_mk3 (Below.trod Tryz.laidOut (by kernel_rfl) (by decide +kernel) ⟨fu0, k0⟩ hb (fun x h => hlt x (by simp [h]))) (Below.trod Tryz.laidOut (by kernel_rfl) (by decide +kernel) ⟨fu1, k1⟩ hb (fun x h => hlt x (by simp [h]))) (Below.trod Tryz.laidOut (by kernel_rfl) (by decide +kernel) ⟨fu2, k2⟩ hb (fun x h => hlt x (by simp [h]))), rfl, hb.frame _, fun h => by cases h⟩
theorem plays9_holds : Rows.AxiomsPlaysSaid :=
  OpenClaim.holds_of_wide 4 Tryz.f4 rfl rfl rfl rfl rfl rfl rfl ⟨rfl, rfl, rfl, rfl, rfl⟩ rfl rfl rfl rfl rfl (by kernel_rfl) Tryz.func4 (by kernel_rfl)
    (of_decide_eq_true (by kernel_rfl)) (by unfold Func.isWrapper; rw [if_neg (by decide +kernel)]; exact ⟨rfl, rfl⟩)
    (fun os started H enc _ => plays9_lifted os started H enc)
end Go.Proofs.YtfljbnhhkdaobaaGreat
