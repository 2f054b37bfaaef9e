/-
  Maps: what is looked up, put and taken out, at keys of which the equality is known.
-/
import Derived.Test.YtnoghkpofpaeeaaGreatOwn2
namespace Go.Proofs.Bw
open Go Go.RowKit
set_option linter.unusedSectionVars false
set_option linter.unusedSimpArgs false

/-- a key's place and what is there -/
def mfind {κ : Type} [DecidableEq κ] (k : κ) : List (κ × Value) → Nat → Option (Nat × Value)
  | [], _ => none
  | (k', v) :: r, i => if k = k' then some (i, v) else mfind k r (i + 1)
def MEs {κ : Type} (enc : κ → Value) (ents : List (κ × Value)) (es : List MapEntry) : Prop := es.map (fun e => (e.key, e.val)) = ents.map (fun p => (enc p.1, p.2))
theorem MEs.len {κ : Type} {enc : κ → Value} {ents : List (κ × Value)} {es : List MapEntry} (h : MEs enc ents es) : es.length = ents.length := by
  have := congrArg List.length h
  simpa using this
structure KeyOk (P : Program) (kt : TypeId) {κ : Type} [DecidableEq κ] (enc : κ → Value) : Prop where
  check : ∀ b k w, (Instr.checkKey b 10000 kt (enc k)).run P w = .ok () w
  find : ∀ k ents es w, MEs enc ents es → (Instr.findKey kt (enc k) es).run P w = .ok (mfind k ents 0) w
  bits : ∀ k, Instr.sameBits 10000 (enc k) (enc k) = true
theorem findAsking_run {P : Program} {kt : TypeId} {κ : Type} [DecidableEq κ] {enc : κ → Value} (heq : ∀ a b w, (Op.equal kt (enc a) (enc b)).run P w = .ok (decide (a = b)) w) (k : κ) (w : World) :
    ∀ (es : List MapEntry) (ents : List (κ × Value)) (i : Nat), MEs enc ents es → (Instr.findAsking kt (enc k) es i).run P w = .ok (mfind k ents i) w
  | [], [], i, _ => rfl
  | [], _ :: _, i, h => by simp [MEs] at h
  | _ :: _, [], i, h => by simp [MEs] at h
  | e :: es, p :: ents, i, h => by
    simp only [MEs, List.map_cons, List.cons.injEq, Prod.mk.injEq] at h
    obtain ⟨⟨h1, h2⟩, h3⟩ := h
    have ih := findAsking_run heq k w es ents (i + 1) h3
    obtain ⟨k', v⟩ := p
    simp only at h1 h2
    unfold Instr.findAsking
    rw [h1]
    by_cases hk : k = k'
    · simp [heq, hk, mfind, h2]
    · simp [heq, hk, mfind, ih]
theorem ba_beq (a b : ByteArray) : (a == b) = decide (a = b) := by
  obtain ⟨a⟩ := a
  obtain ⟨b⟩ := b
  show (a == b) = _
  by_cases h : a = b <;> simp [h]
theorem findNow_str (s : ByteArray) : ∀ (es : List MapEntry) (ents : List (ByteArray × Value)) (i : Nat), MEs (fun s => Value.string s) ents es → Instr.findNow .string (.string s) es i = some (mfind s ents i)
  | [], [], i, _ => rfl
  | [], _ :: _, i, h => by simp [MEs] at h
  | _ :: _, [], i, h => by simp [MEs] at h
  | e :: es, p :: ents, i, h => by
    simp only [MEs, List.map_cons, List.cons.injEq, Prod.mk.injEq] at h
    obtain ⟨⟨h1, h2⟩, h3⟩ := h
    have ih := findNow_str s es ents (i + 1) h3
    obtain ⟨k', v⟩ := p
    simp only at h1 h2
    unfold Instr.findNow
    rw [h1]
    by_cases hk : s = k'
    · subst hk; simp [Instr.sameNow, ba_beq, mfind, h2]
    · simp [Instr.sameNow, ba_beq, mfind, hk, ih]
theorem keyStr {P : Program} {kt : TypeId} (hk : P.underlying kt = some .string) : KeyOk P kt (fun s : ByteArray => Value.string s) where
  check b k w := by
    unfold Instr.checkKey
    simp [run_underlying hk]
  find k ents es w h := by
    unfold Instr.findKey
    simp [run_underlying hk, findNow_str k es ents 0 h]
  bits k := by simp [Instr.sameBits, ba_beq]
theorem map_erase {α β : Type} (f : α → β) : ∀ (l : List α) (i : Nat), (l.eraseIdx i).map f = (l.map f).eraseIdx i
  | [], _ => rfl
  | _ :: _, 0 => rfl
  | a :: r, i + 1 => by simp only [List.eraseIdx_cons_succ, List.map_cons, map_erase f r i]
theorem run_getMap {P : Program} {w : World} {r : Nat} {es : Array MapEntry} {clock : Nat} (hb : w.heap[r]? = some (.map es clock)) : (getObj r).run P w = .ok (.map es clock) w := by simp [getObj, Sem.run, hb]
def putAt (w : World) (r : Nat) (o : Obj) : World := { w with heap := w.heap.setIfInBounds r o }
theorem run_setMap {P : Program} {w : World} {r : Nat} {es : Array MapEntry} {clock : Nat} (o : Obj) (hb : w.heap[r]? = some (.map es clock)) : (setObj r o).run P w = .ok () (putAt w r o) := by simp [setObj, Sem.run, hb, putAt]
theorem putAt_upd (w : World) (r : Nat) (o : Obj) : Upd r w (putAt w r o) := ⟨rfl, rfl, rfl, by simp [putAt], fun k hk hn => by
  simp only [putAt]
  rw [Array.getElem?_setIfInBounds_ne (fun e => hn e.symm)]⟩
theorem putAt_get (w : World) (r : Nat) (o : Obj) (h : r < w.heap.size) : (putAt w r o).heap[r]? = some o := by simp [putAt, h]
/-- a map of one's own at a block -/
def MapAt {κ : Type} (enc : κ → Value) (w : World) (m : Nat) (ents : List (κ × Value)) : Prop := ∃ es clock, w.heap[m]? = some (.map es clock) ∧ MEs enc ents es.toList
theorem MapAt.mod {κ : Type} {enc : κ → Value} {w w' : World} {m : Nat} {ents : List (κ × Value)} {S : Nat → Prop} (h : MapAt enc w m ents) (hm : Mod S w w') (hS : ¬ S m) : MapAt enc w' m ents := by
  obtain ⟨es, clock, h1, h2⟩ := h
  exact ⟨es, clock, by rw [hm.block m (Array.getElem?_eq_some_iff.1 h1).1 hS]; exact h1, h2⟩
theorem MapAt.ext {κ : Type} {enc : κ → Value} {w w' : World} {m : Nat} {ents : List (κ × Value)} (h : MapAt enc w m ents) (hm : Ext w w') : MapAt enc w' m ents := h.mod hm id
theorem MapAt.lt {κ : Type} {enc : κ → Value} {w : World} {m : Nat} {ents : List (κ × Value)} (h : MapAt enc w m ents) : m < w.heap.size := by
  obtain ⟨es, clock, h1, _⟩ := h
  exact (Array.getElem?_eq_some_iff.1 h1).1
/-- what is there; what is there when one is put, or taken out -/
def mget {κ : Type} [DecidableEq κ] (k : κ) (ents : List (κ × Value)) : Option Value := (mfind k ents 0).map (·.2)
def mput {κ : Type} [DecidableEq κ] (k : κ) (v : Value) (ents : List (κ × Value)) : List (κ × Value) := match mfind k ents 0 with
  | some (i, _) => ents.modify i fun _ => (k, v)
  | none => ents ++ [(k, v)]
def mdel {κ : Type} [DecidableEq κ] (k : κ) (ents : List (κ × Value)) : List (κ × Value) := match mfind k ents 0 with
  | some (i, _) => ents.eraseIdx i
  | none => ents
theorem mfind_some {κ : Type} [DecidableEq κ] {k : κ} : ∀ {ents : List (κ × Value)} {i j : Nat} {v : Value}, mfind k ents i = some (j, v) → i ≤ j ∧ ents[j - i]? = some (k, v)
  | [], i, j, v, h => by simp [mfind] at h
  | (k', v') :: r, i, j, v, h => by
    unfold mfind at h
    split at h
    · rename_i hk
      simp only [Option.some.injEq, Prod.mk.injEq] at h
      obtain ⟨rfl, rfl⟩ := h
      subst hk
      exact ⟨Nat.le_refl _, by simp⟩
    · obtain ⟨h1, h2⟩ := mfind_some h
      refine ⟨by omega, ?_⟩
      rw [show j - i = (j - (i + 1)) + 1 by omega, List.getElem?_cons_succ]; exact h2
theorem mfind_none {κ : Type} [DecidableEq κ] {k : κ} : ∀ {ents : List (κ × Value)} {i : Nat}, mfind k ents i = none → ∀ p ∈ ents, p.1 ≠ k
  | [], i, h, p, hp => by cases hp
  | (k', v') :: r, i, h, p, hp => by
    unfold mfind at h
    split at h
    · cases h
    · rename_i hk
      rcases List.mem_cons.1 hp with rfl | hp
      · exact fun e => hk e.symm
      · exact mfind_none h p hp
section
variable {P : Program} {e : Env} {w : World} {K : Value → World → Prop} {d : Option Tmp} {t : TypeId} {pos : String} {af : Array Edge} {g : Option (Nat × Bool)} {κ : Type} [DecidableEq κ] {enc : κ → Value} {kt et mt : TypeId}
theorem OpT.makeMap (h : ∀ w' m, m = w.heap.size → Ext w w' → w'.heap.size = w.heap.size + 1 → MapAt enc w' m ([] : List (κ × Value)) → K (.map (some m)) w') : OpT P e w ⟨d, .makeMap mt none, t, pos, af, g⟩ K := by
  refine OpT.value (w' := w.alloc (.map #[] 0)) (fun ρ hρ => ?_) (h _ _ rfl (Ext.alloc _ _) (by simp) ⟨#[], 0, heap_alloc_new w _, rfl⟩)
  simp [execOp, Instr.makeMap]
theorem OpT.lookup {x y : Operand} {m : Nat} {ents : List (κ × Value)} {k : κ} {z : Value} (ht : P.underlying mt = some (.map kt et)) (hk : KeyOk P kt enc) (hz : ∀ w, (zeroValue et).run P w = .ok z w) (hx : evalO e x = some (.map (some m))) (hy : evalO e y = some (enc k)) (hm : MapAt enc w m ents)
    (h : K ((mget k ents).getD z) w) : OpT P e w ⟨d, .lookup mt x y false, t, pos, af, g⟩ K := by
  obtain ⟨es, clock, h1, h2⟩ := hm
  refine OpT.value (fun ρ hρ => ?_) h
  have hf := hk.find k ents es.toList w h2
  simp only [execOp, hρ x _ hx, hρ y _ hy, Instr.lookup]
  cases hh : mfind k ents 0 with
  | none => simp [run_underlying ht, run_getMap h1, hk.check, hf, hh, hz, mget]
  | some p => simp [run_underlying ht, run_getMap h1, hk.check, hf, hh, mget]
theorem OpT.lookup2 {x y : Operand} {m : Nat} {ents : List (κ × Value)} {k : κ} {z : Value} (ht : P.underlying mt = some (.map kt et)) (hk : KeyOk P kt enc) (hz : ∀ w, (zeroValue et).run P w = .ok z w) (hx : evalO e x = some (.map (some m))) (hy : evalO e y = some (enc k)) (hm : MapAt enc w m ents)
    (h : K (.tuple #[(mget k ents).getD z, .bool (mget k ents).isSome]) w) : OpT P e w ⟨d, .lookup mt x y true, t, pos, af, g⟩ K := by
  obtain ⟨es, clock, h1, h2⟩ := hm
  refine OpT.value (fun ρ hρ => ?_) h
  have hf := hk.find k ents es.toList w h2
  simp only [execOp, hρ x _ hx, hρ y _ hy, Instr.lookup]
  cases hh : mfind k ents 0 with
  | none => simp [run_underlying ht, run_getMap h1, hk.check, hf, hh, hz, mget]
  | some p => simp [run_underlying ht, run_getMap h1, hk.check, hf, hh, mget]
theorem OpT.mapUpdate {x y z : Operand} {m : Nat} {ents : List (κ × Value)} {k : κ} {v : Value} (ht : P.underlying mt = some (.map kt et)) (hk : KeyOk P kt enc) (hx : evalO e x = some (.map (some m))) (hy : evalO e y = some (enc k)) (hz : evalO e z = some v) (hm : MapAt enc w m ents)
    (h : ∀ w', Upd m w w' → MapAt enc w' m (mput k v ents) → K undef w') : OpT P e w ⟨d, .mapUpdate mt x y z, t, pos, af, g⟩ K := by
  obtain ⟨es, clock, h1, h2⟩ := hm
  have hlt := (Array.getElem?_eq_some_iff.1 h1).1
  have hf := hk.find k ents es.toList w h2
  have hl := h2.len
  cases hh : mfind k ents 0 with
  | none =>
    refine OpT.skip (w' := putAt w m (.map (es.push { key := enc k, val := v, born := clock }) (clock + 1))) (fun ρ hρ => ?_) (h _ (putAt_upd _ _ _) ⟨_, _, putAt_get _ _ _ hlt, ?_⟩)
    · simp [execOp, hρ x _ hx, hρ y _ hy, hρ z _ hz, Instr.mapUpdate, run_underlying ht, run_getMap h1, hk.check, hf, hh, run_setMap _ h1]
    · unfold mput; rw [hh]
      simp only [MEs, Array.toList_push, List.map_append, List.map_cons, List.map_nil] at h2 ⊢
      rw [h2]
  | some p =>
    obtain ⟨i, v0⟩ := p
    obtain ⟨_, h3⟩ := mfind_some hh
    rw [Nat.sub_zero] at h3
    have hi : i < es.size := by
      have := (List.getElem?_eq_some_iff.1 h3).1
      rw [← hl] at this; simpa using this
    have hkey : es[i].key = enc k := by
      have h4 := congrArg (fun l => l[i]?) h2
      simp only [List.getElem?_map, h3, Option.map_some] at h4
      rw [Array.getElem?_toList, Array.getElem?_eq_getElem hi] at h4
      simp only [Option.map_some, Option.some.injEq, Prod.mk.injEq] at h4
      exact h4.1
    refine OpT.skip (w' := putAt w m (.map (es.modify i fun e => { e with key := enc k, val := v }) clock)) (fun ρ hρ => ?_) (h _ (putAt_upd _ _ _) ⟨_, _, putAt_get _ _ _ hlt, ?_⟩)
    · simp [execOp, hρ x _ hx, hρ y _ hy, hρ z _ hz, Instr.mapUpdate, run_underlying ht, run_getMap h1, hk.check, hf, hh, run_setMap _ h1, Array.getElem?_eq_getElem hi, hkey, Instr.keyThatStays, hk.bits]
    · unfold mput; rw [hh]
      simp only [MEs, Array.toList_modify] at h2 ⊢
      apply List.ext_getElem?
      intro j
      have h4 := congrArg (fun l => l[j]?) h2
      simp only [List.getElem?_map, List.getElem?_modify, Option.map_map] at h4 ⊢
      by_cases hj : i = j
      · subst hj
        simp only [if_true]
        rw [h3, Array.getElem?_toList, Array.getElem?_eq_getElem hi]
        rfl
      · simp only [if_neg hj]
        simpa using h4
theorem OpT.mapDelete {x y : Operand} {t1 t2 : TypeId} {m : Nat} {ents : List (κ × Value)} {k : κ} (ht : P.underlying t1 = some (.map kt et)) (hk : KeyOk P kt enc) (hx : evalO e x = some (.map (some m))) (hy : evalO e y = some (enc k)) (hm : MapAt enc w m ents)
    (h : ∀ w', Upd m w w' → MapAt enc w' m (mdel k ents) → K (.tuple #[]) w') : OpT P e w ⟨d, .call ⟨.builtin .delete, #[x, y], #[t1, t2]⟩, t, pos, af, g⟩ K := by
  obtain ⟨es, clock, h1, h2⟩ := hm
  have hlt := (Array.getElem?_eq_some_iff.1 h1).1
  have hf := hk.find k ents es.toList w h2
  cases hh : mfind k ents 0 with
  | none =>
    refine OpT.value (w' := putAt w m (.map es clock)) (fun ρ hρ => ?_) (h _ (putAt_upd _ _ _) ⟨_, _, putAt_get _ _ _ hlt, by unfold mdel; rw [hh]; exact h2⟩)
    simp [execOp, resolve, invoke, builtin, Builtin.delete_, hρ x _ hx, hρ y _ hy, run_underlying ht, run_getMap h1, hk.check, hf, hh, run_setMap _ h1]
  | some p =>
    obtain ⟨i, v0⟩ := p
    refine OpT.value (w' := putAt w m (.map (es.eraseIdxIfInBounds i) clock)) (fun ρ hρ => ?_) (h _ (putAt_upd _ _ _) ⟨_, _, putAt_get _ _ _ hlt, ?_⟩)
    · simp [execOp, resolve, invoke, builtin, Builtin.delete_, hρ x _ hx, hρ y _ hy, run_underlying ht, run_getMap h1, hk.check, hf, hh, run_setMap _ h1]
    · unfold mdel; rw [hh]
      simp only [MEs, Array.toList_eraseIdxIfInBounds] at h2 ⊢
      rw [map_erase, map_erase, h2]
end
end Go.Proofs.Bw
