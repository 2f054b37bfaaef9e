/-
  The program's cache and the document's: what they answer.
-/
import Derived.Test.YtmibjillclfogaaDoorC15
import Derived.Test.YtmibjillclfogaaDoorC13
namespace Go.Proofs.YtmibjillclfogaaDoor
open Go Go.RowKit Go.Proofs.Bw
set_option linter.unusedVariables false
set_option linter.unusedSimpArgs false

def PE.pr (e : PE) : SP := prT e.a e.b
structure Rel (q : Ch) (L : List PE) : Prop where
  l : q.l = L.map PE.pr
  may : ∀ e ∈ L, mayT e.a = true ∧ mayT e.b = true
theorem Rel.len {q : Ch} {L : List PE} (h : Rel q L) : q.l.length = L.length := by rw [h.l, List.length_map]
theorem same2_pr {e : PE} {a b : T} (he : mayT e.a = true ∧ mayT e.b = true) (ha : mayT a = true) (hb : mayT b = true) : same2 e a b = true ↔ e.pr = prT a b := by
  rw [same2_iff, PE.pr, prT_iff he.1 he.2 ha hb]
theorem fI_pix {a b : T} (ha : mayT a = true) (hb : mayT b = true) : ∀ (L : List PE) (i : Nat), (∀ e ∈ L, mayT e.a = true ∧ mayT e.b = true) → fI a b L i = pix (prT a b) (L.map PE.pr) i
  | [], _, _ => rfl
  | e :: r, i, h => by
    have h1 := same2_pr (h e List.mem_cons_self) ha hb
    rw [fI, List.map_cons, pix, fI_pix ha hb r (i + 1) fun x hx => h x (List.mem_cons_of_mem _ hx)]
    by_cases hs : same2 e a b = true
    · rw [if_pos hs, if_pos (h1.1 hs)]
    · rw [if_neg hs, if_neg (fun e => hs (h1.2 e))]
theorem fI_none {a b : T} (hn : ¬ (mayT a = true ∧ mayT b = true)) : ∀ (L : List PE) (i : Nat), (∀ e ∈ L, mayT e.a = true ∧ mayT e.b = true) → fI a b L i = -1
  | [], _, _ => rfl
  | e :: r, i, h => by
    have h0 := h e List.mem_cons_self
    rw [fI, if_neg, fI_none hn r (i + 1) fun x hx => h x (List.mem_cons_of_mem _ hx)]
    intro hs
    rcases (same2_iff e a b).1 hs with ⟨h1, h2⟩ | ⟨h1, h2⟩
    · rw [h1, h2] at h0; exact hn h0
    · rw [h1, h2] at h0; exact hn ⟨h0.2, h0.1⟩
theorem has_eq {q : Ch} {L : List PE} (h : Rel q L) (a b : T) : (mayT a && mayT b && decide (prT a b ∈ q.l)) = decide (0 ≤ fI a b L 0) := by
  by_cases hm : mayT a = true ∧ mayT b = true
  · rw [hm.1, hm.2, fI_pix hm.1 hm.2 L 0 h.may, ← h.l, Bool.true_and, Bool.true_and, decide_eq_decide]
    constructor
    · intro hp
      obtain ⟨k, _, _, _, e⟩ := pix_in _ _ hp
      rw [e]; omega
    · intro hp
      apply Decidable.byContradiction
      intro hn
      rw [pix_no _ _ _ hn] at hp; omega
  · rw [fI_none hm L 0 h.may]
    have e : (mayT a && mayT b) = false := by
      rw [Bool.eq_false_iff, ne_eq, Bool.and_eq_true]; exact hm
    rw [e]; rfl
theorem flt_at {p : SP} {l : List SP} {k : Nat} (hk : k < l.length) (hn : l.Nodup) (e : l[k] = p) : flt p l = l.take k ++ l.drop (k + 1) := by
  have hs : l = l.take k ++ l[k] :: l.drop (k + 1) := by
    conv => lhs; rw [← List.take_append_drop k l, List.drop_eq_getElem_cons hk]
  rw [e] at hs
  have hn2 : (l.take k ++ p :: l.drop (k + 1)).Nodup := by rw [← hs]; exact hn
  rw [List.nodup_append] at hn2
  obtain ⟨n1, n2, n3⟩ := hn2
  rw [List.nodup_cons] at n2
  conv => lhs; rw [hs]
  rw [flt_append, flt_cons, if_pos rfl, flt_none p _ (fun h => n3 p h p List.mem_cons_self rfl), flt_none p _ n2.1]
theorem put_rel {q : Ch} {L : List PE} (h : Rel q L) (hq : q.ok) (e : PE) : Rel (q.put e.a e.b) (putR q.most e L) := by
  unfold Ch.put putR
  by_cases hm : mayT e.a = true ∧ mayT e.b = true
  · rw [if_pos hm, if_pos hm]
    have key : ∀ L1 : List PE, (∀ x ∈ L1, x ∈ L) → flt e.pr q.l = L1.map PE.pr → Rel ⟨q.most, putL q.most (prT e.a e.b) q.l⟩ (if q.most < (L1 ++ [e]).length then (L1 ++ [e]).drop 1 else L1 ++ [e]) := by
      intro L1 hsub he
      have hmay : ∀ x ∈ L1 ++ [e], mayT x.a = true ∧ mayT x.b = true := fun x hx => (List.mem_append.1 hx).elim (fun hx => h.may x (hsub x hx)) fun hx => by rw [List.mem_singleton.1 hx]; exact hm
      have el : (flt e.pr q.l ++ [e.pr]) = (L1 ++ [e]).map PE.pr := by rw [he, List.map_append]; rfl
      simp only [putL, flt_if]
      rw [show prT e.a e.b = e.pr from rfl, el, List.length_map]
      split
      · exact ⟨by simp only [List.map_drop], fun x hx => hmay x (List.mem_of_mem_drop hx)⟩
      · exact ⟨rfl, hmay⟩
    have efI := fI_pix hm.1 hm.2 L 0 h.may
    rw [← h.l] at efI
    by_cases hp : e.pr ∈ q.l
    · obtain ⟨k, hk, hek, _, ek⟩ := pix_in _ _ hp
      rw [show prT e.a e.b = e.pr from rfl, ek] at efI
      rw [efI]
      simp only [Int.toNat_natCast]
      rw [show (if (0 : Int) ≤ (k : Int) then L.take k ++ L.drop (k + 1) else L) = L.take k ++ L.drop (k + 1) from if_pos (by omega)]
      refine key (L.take k ++ L.drop (k + 1)) (fun x hx => (List.mem_append.1 hx).elim List.mem_of_mem_take List.mem_of_mem_drop) ?_
      rw [flt_at hk hq.2.2.2 hek, h.l, List.map_append, List.map_take, List.map_drop]
    · rw [show prT e.a e.b = e.pr from rfl, pix_no _ _ _ hp] at efI
      rw [efI]
      simp only
      rw [show (if (0 : Int) ≤ -1 then L.take (-1 : Int).toNat ++ L.drop ((-1 : Int).toNat + 1) else L) = L from if_neg (by omega)]
      exact key L (fun x hx => hx) (by rw [flt_none _ _ hp, h.l])
  · rw [if_neg hm, if_neg hm]; exact h
theorem ChAt.mod {S : Nat → Prop} {w w' : World} {lo g : Nat} {q : Ch} {own : Nat → Prop} (h : ChAt w lo g q own) (hm : Bw.Mod S w w') (hS : ∀ k, own k → ¬ S k) : ChAt w' lo g q own := by
  obtain ⟨A, c, m, ents, b, o, hmp, kt, h1, h2, h3, h4, h5, h6⟩ := h
  exact ⟨A, c, m, ents, b.mod hm (hS g ((h6 g).2 (.inl rfl))), o.mod hm (fun a ha => hS _ ((h6 _).2 (.inr (.inr ⟨a, ha, rfl⟩)))), hmp.mod hm (hS m ((h6 m).2 (.inr (.inl rfl)))), kt, h1, h2, h3, h4, h5, h6⟩
theorem ChAt.own_lt {w : World} {lo g : Nat} {q : Ch} {own : Nat → Prop} (h : ChAt w lo g q own) : ∀ k, own k → k < w.heap.size := by
  obtain ⟨A, c, m, ents, b, o, hmp, kt, h1, h2, h3, h4, h5, h6⟩ := h
  intro k hk
  rcases (h6 k).1 hk with rfl | rfl | ⟨a, ha, hk⟩
  · exact b.lt
  · exact hmp.lt
  · rw [hk]; exact (o.block ha).2
set_option maxRecDepth 20000 in
theorem few_runs {R : Nat → Prop} (A : Option Addr) (ts : List T) (c : Nat) (w : World) (h : SlT w R A ts) (hl : lenOk ts.length c) :
    Runs Tryd.prog 7 #[.slice A ts.length c] w fun v w' => Ext w w' ∧ ∃ b, v = .bool b := by
  refine Runs.of_vc cx_ok [0, 2, 3, 6, 10, 25] [.v _] Tryd.func7 rfl rfl rfl (Holds.nil _) ?_
  refine And.intro (fun h => ⟨Ext.refl _, _, rfl⟩) (fun h2 => ?_)
  have hlen := of_decide_eq_false h2
  refine vLoop_mk (σ := Nat) (fun i => [(0, .v (.slice A ts.length c)), (3, .v (.int .i64 i))]) (fun _ => []) (fun i w' => Ext w w' ∧ i ≤ ts.length) (fun i => ts.length - i) 0 (fun _ => ⟨rfl, rfl⟩)
    ⟨⟨rfl, rfl, trivial⟩, trivial, Ext.refl _, Nat.zero_le _⟩ ?_
  rintro i w1 hh1 ⟨x1, hi⟩
  refine And.intro (fun h3 => ?_) (fun h3 => ?_)
  · have hil : i < ts.length := by have := of_decide_eq_true h3; omega
    obtain ⟨a1, cs, ha1, _, hrow, hv⟩ := (h.ext x1).at hil
    have hcl := hv.length
    refine OpT.indexAddr Tryd.underlying22 Tryd.sizeOf36 rfl rfl ha1 (by omega) ?_
    refine Lands.v hh1 ?_
    refine OpT.loadA (cs := cs) Tryd.isAgg36 (by rw [hcl]; exact Tryd.sizeOf36) rfl hrow ?_
    refine Lands.v hh1 ?_
    have cD := rDeep_runs ts[i] cs w1 R hv
    cases hd : isDeep ts[i] with
    | true =>
      rw [hd] at cD
      refine vcS cD hh1 fun w2 x2 hh2 => ?_
      refine vskip rfl ?_
      refine vskip rfl ?_
      refine vskip rfl ?_
      refine vskip rfl ?_
      refine OpT.pickT rfl rfl rfl ?_
      refine Lands.v hh2 ?_
      exact And.intro (fun _ => ⟨x1.trans x2, _, rfl⟩) (fun h => by cases h)
    | false =>
      rw [hd] at cD
      refine vcS cD hh1 fun w2 x2 hh2 => ?_
      refine vyes rfl ?_
      refine OpT.indexAddr Tryd.underlying22 Tryd.sizeOf36 rfl rfl ha1 (by omega) ?_
      refine Lands.v hh2 ?_
      refine vyes rfl ?_
      refine OpT.loadA (cs := cs) Tryd.isAgg36 (by rw [hcl]; exact Tryd.sizeOf36) rfl (hrow.ext x2) ?_
      refine Lands.v hh2 ?_
      refine vyes rfl ?_
      refine vcS (rSize_runs ts[i] cs w2 R (hv.ext x2) (by have := (isDeep_no hd).1; omega)) hh2 fun w3 x3 hh3 => ?_
      have y3 := x1.trans (x2.trans x3)
      refine And.intro (fun h4 => ⟨y3, _, rfl⟩) (fun h4 => ?_)
      refine vsd (by simp only [inKind]; omega) ?_
      exact Exists.intro (i + 1) ⟨by omega, ⟨rfl, rfl, trivial⟩, trivial, y3, hil⟩
  · exact ⟨x1, _, rfl⟩
end Go.Proofs.YtmibjillclfogaaDoor

