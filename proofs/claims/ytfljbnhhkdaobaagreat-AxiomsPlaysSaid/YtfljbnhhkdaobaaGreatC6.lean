/-
  DERIVED: THE SHELF's CONTRACTS AT THIS DUMP, IN PLAIN WORDS (tools/lay-plain.mjs out of 'YtfljbnhhkdaobaaGreatKeys.lean', which tools/lay-shelf.mjs wrote): THE SAME DECLARATIONS UNDER THE SAME NAMES: 'import', 'namespace', 'open', 'def', 'theorem' AND NOTHING ELSE: no command of the shelf's: FOR A HAND-IN. Each laying: the table of numbers ('.._ren') and one theorem, a field a fact of the dump's own or the kernel's comparison; each contract: ONE APPLICATION.
-/
import Derived.Shelf.SlGeneric
import Derived.Shelf.SlIter.Nil
import Derived.Ground.GgzProg
import Derived.Test.YtfljbnhhkdaobaaGreatProg
import Derived.Test.YtfljbnhhkdaobaaGreatA6
import Derived.Maps.OwnSet
import Derived.Sort.KeysCollected
import Derived.Test.YtfljbnhhkdaobaaGreatA7
import Derived.Shelf.SlIter.Stops
import Derived.Shelf.SlIter.Sorted
import Derived.Test.YtfljbnhhkdaobaaGreatA3
import Derived.RangeFuncKeeps
import Derived.Test.YtfljbnhhkdaobaaGreatA8
namespace Go.Proofs
open Go.Shelf
def Tryz.keysA_ren : Go.Shelf.Ren := ⟨fun | 7 => 52 | 10 => 86 | n => n, fun | 23 => 97 | 26 => 9 | 3 => 3 | 28 => 95 | 0 => 0 | 27 => 94 | 33 => 126 | 4 => 4 | n => n, fun | n => n⟩
theorem Tryz.keysA : Go.Proofs.SlLaysZ.n7 Tryz.prog Tryz.keysA_ren := {
  mixed := by kernel_rfl
  f7 := ⟨Tryz.f52.name, by decide, Tryz.func52.trans (congrArg some (by kernel_rfl))⟩
  f10 := ⟨Tryz.f86.name, by decide, Tryz.func86.trans (congrArg some (by kernel_rfl))⟩
  t0 := Tryz.underlying0
  a0 := Tryz.isAgg0
  z0 := Tryz.sizeOf0
  v0 := Tryz.zeroValue0
  t4 := Tryz.underlying4
  a4 := Tryz.isAgg4
  z4 := Tryz.sizeOf4
  v4 := Tryz.zeroValue4
  t23 := Tryz.underlying97
  a23 := Tryz.isAgg97
  z23 := Tryz.sizeOf97
  v23 := Tryz.zeroValue97
  t26 := Tryz.underlying9
  a26 := Tryz.isAgg9
  z26 := Tryz.sizeOf9
  v26 := Tryz.zeroValue9
  t27 := Tryz.underlying94
  a27 := Tryz.isAgg94
  z27 := Tryz.sizeOf94
  v27 := Tryz.zeroValue94
  t28 := Tryz.underlying95
  a28 := Tryz.isAgg95
  z28 := Tryz.sizeOf95
  v28 := Tryz.zeroValue95
  t33 := Tryz.underlying126
  a33 := Tryz.isAgg126
  z33 := Tryz.sizeOf126
  v33 := Tryz.zeroValue126 }
def Tryz.sortedA_ren : Go.Shelf.Ren := ⟨fun | 6 => 51 | 8 => 84 | 9 => 85 | 11 => 87 | 13 => 120 | 12 => 119 | 23 => 149 | 24 => 150 | 14 => 140 | 15 => 141 | 16 => 142 | 17 => 143 | 18 => 144 | 19 => 145 | 20 => 146 | 21 => 147 | 22 => 148 | 25 => 167 | 26 => 168 | 27 => 169 | 28 => 170 | 29 => 171 | 30 => 172 | 31 => 178 | n => n, fun | 26 => 9 | 28 => 95 | 24 => 28 | 0 => 0 | 3 => 3 | 37 => 146 | 48 => 168 | 50 => 170 | 4 => 4 | 40 => 161 | 39 => 160 | 45 => 74 | 5 => 5 | 9 => 9 | 51 => 182 | 55 => 186 | 57 => 192 | 58 => 193 | 33 => 126 | n => n, fun | n => n⟩
theorem Tryz.sortedA : Go.Proofs.SlLaysZ.n6 Tryz.prog Tryz.sortedA_ren := {
  mixed := by kernel_rfl
  f6 := ⟨Tryz.f51.name, by decide, Tryz.func51.trans (congrArg some (by kernel_rfl))⟩
  f8 := ⟨Tryz.f84.name, by decide, Tryz.func84.trans (congrArg some (by kernel_rfl))⟩
  f11 := ⟨Tryz.f87.name, by decide, Tryz.func87.trans (congrArg some (by kernel_rfl))⟩
  t0 := Tryz.underlying0
  a0 := Tryz.isAgg0
  z0 := Tryz.sizeOf0
  v0 := Tryz.zeroValue0
  t24 := Tryz.underlying28
  a24 := Tryz.isAgg28
  z24 := Tryz.sizeOf28
  v24 := Tryz.zeroValue28
  t26 := Tryz.underlying9
  a26 := Tryz.isAgg9
  z26 := Tryz.sizeOf9
  v26 := Tryz.zeroValue9
  t28 := Tryz.underlying95
  a28 := Tryz.isAgg95
  z28 := Tryz.sizeOf95
  v28 := Tryz.zeroValue95
  i26 := by kernel_rfl }
end Go.Proofs

/-
  A map of one's own that is a set of names: what is put in, taken out, looked for.
-/
namespace Go.Proofs.YtfljbnhhkdaobaaGreat
open Go Go.RowKit Go.Proofs.Bw
set_option linter.unusedVariables false
set_option linter.unusedSimpArgs false
abbrev DU := DataW Unit
def kL (s : ByteArray) : Lit := .string s.data.toList
def OM (w : World) (b n : Nat) (S : ByteArray → Prop) : Prop := ∃ D : DU, w.ownsMap Tryz.prog 9 (plainElem Tryz.prog 3) b n D ∧ ∀ s : ByteArray, (Maps.has D (kL s) = true ↔ S s) ∧ (S s → D.atKey (kL s) (.lit (.int .i64 0)) = .lit (.int .i64 1))
theorem keyed : Maps.Keyed Tryz.prog 9 := Maps.string_keyed Tryz.underlying9
theorem keyOfS {s : ByteArray} (hs : s.size ≤ maxLen) : keyOf Tryz.prog 9 (.string s) = some (kL s) := by
  unfold keyOf
  rw [Tryz.underlying9]
  simp [mapKey, hs, kL]
theorem kL_inj {s s' : ByteArray} (h : kL s = kL s') : s = s' := by
  unfold kL at h
  injection h with h
  obtain ⟨⟨a⟩⟩ := s
  obtain ⟨⟨b⟩⟩ := s'
  have h : a = b := h
  rw [h]
theorem ownsMap_mod {S : Nat → Prop} {w w' : World} {b n : Nat} {D : DU} (h : w.ownsMap Tryz.prog 9 (plainElem Tryz.prog 3) b n D) (hm : Bw.Mod S w w') (hS : ¬ S b) : w'.ownsMap Tryz.prog 9 (plainElem Tryz.prog 3) b n D := by
  have hl := h.lt
  obtain ⟨es, clock, h1, h2⟩ := h
  exact ⟨es, clock, (hm.block b hl hS).trans h1, h2⟩
theorem OM.mod {S' : Nat → Prop} {w w' : World} {b n : Nat} {S : ByteArray → Prop} (h : OM w b n S) (hm : Bw.Mod S' w w') (hS : ¬ S' b) : OM w' b n S := by
  obtain ⟨D, h1, h2⟩ := h
  exact ⟨D, ownsMap_mod h1 hm hS, h2⟩
theorem OM.ext {w w' : World} {b n : Nat} {S : ByteArray → Prop} (h : OM w b n S) (hm : Ext w w') : OM w' b n S := h.mod hm id
theorem OM.lt {w : World} {b n : Nat} {S : ByteArray → Prop} (h : OM w b n S) : b < w.heap.size := by
  obtain ⟨D, h1, _⟩ := h
  exact h1.lt
section
variable {e : Env} {w : World} {K : Value → World → Prop} {d : Option Tmp} {t : TypeId} {pos : String} {af : Array Edge} {g : Option (Nat × Bool)} {b n : Nat} {S : ByteArray → Prop}
theorem OpT.makeS {mt : TypeId} (h : ∀ w' m, m = w.heap.size → Ext w w' → w'.heap.size = w.heap.size + 1 → OM w' m 0 (fun _ => False) → K (.map (some m)) w') : Bw.OpT Tryz.prog e w ⟨d, .makeMap mt none, t, pos, af, g⟩ K := by
  refine Bw.OpT.value (w' := w.alloc (.map #[] 0)) (fun ρ hρ => ?_) (h _ _ rfl (Ext.alloc _ _) (by simp) ⟨.map [], World.ownsMap_made w _ _ _, fun s => ⟨by simp [Maps.has], fun h => h.elim⟩⟩)
  simp [execOp, Instr.makeMap]
set_option maxRecDepth 20000 in
theorem OpT.putS {x y z : Operand} {s : ByteArray} (hx : evalO e x = some (.map (some b))) (hy : evalO e y = some (.string s)) (hz : evalO e z = some (.int .i64 1)) (hs : s.size ≤ maxLen) (hn : n < maxLen) (hm : OM w b n S)
    (h : ∀ w', Upd b w w' → OM w' b (n + 1) (fun q => S q ∨ q = s) → K undef w') : Bw.OpT Tryz.prog e w ⟨d, .mapUpdate 97 x y z, t, pos, af, g⟩ K := by
  obtain ⟨D, h1, h2⟩ := hm
  obtain ⟨w', hr, ho, hg⟩ := h1.update keyed Tryz.underlying97 hn (keyOfS hs) (plainElem_int (H := Unit) (P := Tryz.prog) Tryz.underlying3 (a := 1) (by decide))
  refine Bw.OpT.skip (w' := w') (fun ρ hρ => ?_) (h _ ((Mod.of_grown hg).mono fun k hk => Option.some.inj hk) ⟨_, ho, fun q => ?_⟩)
  · simp only [execOp, hρ x _ hx, hρ y _ hy, hρ z _ hz, Sem.run_bind, hr, Result.andThen_ok]
    simp
  · have hM := h1.isMap
    have hk := keyed.key (keyOfS hs)
    by_cases hq : q = s
    · subst hq
      exact ⟨⟨fun _ => .inr rfl, fun _ => Maps.has_put_same hM hk _⟩, fun _ => Maps.atKey_put_same hM hk _ _⟩
    · have hne : kL q ≠ kL s := fun h => hq (kL_inj h)
      rw [Maps.has_put_other hne, Maps.atKey_put_other hne]
      exact ⟨⟨fun h => .inl ((h2 q).1.1 h), fun h => (h2 q).1.2 (h.elim id fun h => absurd h hq)⟩, fun h => (h2 q).2 (h.elim id fun h => absurd h hq)⟩
set_option maxRecDepth 20000 in
theorem OpT.lookS {x y : Operand} {s : ByteArray} (hx : evalO e x = some (.map (some b))) (hy : evalO e y = some (.string s)) (hs : s.size ≤ maxLen) (hm : OM w b n S)
    (h : ∀ c : Int, (S s → c = 1) → (¬ S s → c = 0) → K (.int .i64 c) w) : Bw.OpT Tryz.prog e w ⟨d, .lookup 97 x y false, t, pos, af, g⟩ K := by
  obtain ⟨D, h1, h2⟩ := hm
  have hz : (zeroValue 3).run Tryz.prog w = .ok (.int .i64 0) w := Tryz.zeroValue3 w
  obtain ⟨c, hr, hat, _⟩ := h1.lookup_int keyed Tryz.underlying97 Tryz.underlying3 hz (keyOfS hs)
  refine Bw.OpT.value (v := .int .i64 c) (fun ρ hρ => ?_) (h c (fun hS => ?_) (fun hS => ?_))
  · simp [execOp, hρ x _ hx, hρ y _ hy, hr]
  · rw [(h2 s).2 hS] at hat
    injection hat with hat; injection hat with _ hat; exact hat.symm
  · rw [Maps.atKey_of_not_has (by cases hh : Maps.has D (kL s) with | false => rfl | true => exact absurd ((h2 s).1.1 hh) hS)] at hat
    injection hat with hat; injection hat with _ hat; exact hat.symm
set_option maxRecDepth 20000 in
theorem OpT.delS {x y : Operand} {s : ByteArray} (hx : evalO e x = some (.map (some b))) (hy : evalO e y = some (.string s)) (hs : s.size ≤ maxLen) (hm : OM w b n S)
    (h : ∀ w', Upd b w w' → OM w' b n (fun q => S q ∧ q ≠ s) → K (.tuple #[]) w') : Bw.OpT Tryz.prog e w ⟨d, .call ⟨.builtin .delete, #[x, y], #[97, 9]⟩, t, pos, af, g⟩ K := by
  obtain ⟨D, h1, h2⟩ := hm
  obtain ⟨w', hr, ho, hg⟩ := h1.drop keyed Tryz.underlying97 (keyOfS hs) t
  refine Bw.OpT.value (w' := w') (fun ρ hρ => ?_) (h _ ((Mod.of_grown hg.grown).mono fun k hk => Option.some.inj hk) ⟨_, ho, fun q => ?_⟩)
  · simp [execOp, resolve, invoke, builtin, hρ x _ hx, hρ y _ hy, hr]
  · by_cases hq : q = s
    · subst hq
      rw [Maps.has_del_same]
      exact ⟨⟨fun h => by simp at h, fun h => absurd rfl h.2⟩, fun h => absurd rfl h.2⟩
    · have hne : kL q ≠ kL s := fun h => hq (kL_inj h)
      rw [Maps.has_del_other hne, Maps.atKey_del_other hne]
      exact ⟨⟨fun h => ⟨(h2 q).1.1 h, hq⟩, fun h => (h2 q).1.2 h.1⟩, fun h => (h2 q).2 h.1⟩
end
end Go.Proofs.YtfljbnhhkdaobaaGreat

/-
  The keys of a set, sorted: a slice of one's own.
-/
namespace Go.Proofs.YtfljbnhhkdaobaaGreat
open Go Go.RowKit Go.Proofs.Bw
set_option linter.unusedVariables false
set_option linter.unusedSimpArgs false
def OrdL (l : List ByteArray) : Prop := l.Pairwise fun a b => a.data.toList < b.data.toList
def SetL (S : ByteArray → Prop) (l : List ByteArray) : Prop := OrdL l ∧ ∀ s, s ∈ l ↔ S s
theorem OrdL.nodup {l : List ByteArray} (h : OrdL l) : l.Nodup := h.imp fun {a b} hab e => by subst e; exact List.lt_irrefl _ hab
theorem SetL.unique {S S' : ByteArray → Prop} {l l' : List ByteArray} (h : SetL S l) (h' : SetL S' l') (hs : ∀ s, S s ↔ S' s) : l = l' := by
  refine List.Perm.eq_of_pairwise (le := fun a b : ByteArray => a.data.toList < b.data.toList) (fun a b _ _ h1 h2 => absurd (List.lt_trans h1 h2) (List.lt_irrefl _)) h.1 h'.1 ?_
  exact (List.perm_ext_iff_of_nodup h.1.nodup h'.1.nodup).2 fun s => (h.2 s).trans ((hs s).trans (h'.2 s).symm)
theorem SetL.congr {S S' : ByteArray → Prop} {l : List ByteArray} (h : SetL S l) (hs : ∀ s, S s ↔ S' s) : SetL S' l := ⟨h.1, fun s => (h.2 s).trans (hs s)⟩
theorem sortsA (m : Nat) : AnyZ.SortsIn Tryz.prog Tryz.sortedA_ren Fence.wide m :=
  ⟨fun blk off cap ss W hH hblk hsz => callsIn_wide.2 (Tryz.slices_Sort_string blk off cap ss W hH hblk hsz),
   fun p cap W => callsIn_wide.2 (Tryz.slices_Sort_string_none p cap W)⟩
def KBox (w : World) (g b : Nat) : Prop := w.cell? ⟨g, 0, none⟩ = some (.map (some b)) ∧ g < w.heap.size
theorem Keys_runs (b : Nat) (w : World) : Runs Tryz.prog 52 #[.map (some b)] w fun v w' => Ext w w' ∧ v = .func (.func 86) #[] #[.pointer (some ⟨w.heap.size, 0, none⟩)] ∧ KBox w' w.heap.size b := by
  refine Runs.of_calls (callsIn_wide.1 (AnyZ.keys_in Tryz.keysA Fence.wide 5 trivial rfl (some b) w)) ?_
  rintro e w' ⟨rfl, rfl⟩
  exact ⟨_, rfl, Ext.alloc _ _, rfl, by simp, by simp⟩
theorem strKeys_nodup {w : World} {b n : Nat} {D : DU} (h : w.ownsMap Tryz.prog 9 (plainElem Tryz.prog 3) b n D) : (strKeys D).Nodup := by
  obtain ⟨es, hD, hpw, _⟩ := h.entries keyed
  obtain ⟨es', hD', hko⟩ := h.keysOf
  obtain rfl : es = es' := by rw [hD] at hD'; simpa using hD'
  subst hD
  have hk : ∀ p ∈ es, ∃ x, p.1 = .string x := fun p hp => by obtain ⟨v, hv⟩ := hko p hp; obtain ⟨x, _, hx, _⟩ := Maps.keyOf_str Tryz.underlying9 hv; exact ⟨x, hx⟩
  show (es.map fun p => Go.strOf p.1).Nodup
  refine List.pairwise_map.2 (hpw.imp_of_mem fun {p q} hp' hq' hne e => hne ?_)
  obtain ⟨a, ha⟩ := hk p hp'
  obtain ⟨b, hb⟩ := hk q hq'
  rw [ha, hb] at e ⊢
  exact congrArg _ e
theorem KS_runs {S : ByteArray → Prop} {b n g : Nat} (w : World) (hm : OM w b n S) (hg : KBox w g b) (hn : n ≤ 8000000000000) :
    Runs Tryz.prog 51 #[.func (.func 86) #[] #[.pointer (some ⟨g, 0, none⟩)]] w fun v w' => Ext w w' ∧ ∃ A c l, v = .slice A l.length c ∧ OwnE encS w' w.heap.size 9 (fun _ => False) A c l ∧ SetL S l := by
  obtain ⟨D, h1, h2⟩ := hm
  have hsz := h1.size_le
  have hst := AnyZ.keys_stops (ρ := Tryz.keysA_ren) { Tryz.keysA with } Fence.wide 2 trivial rfl (by omega) g b n D w hg.2 hg.1 h1
  have hseq := hst.gives
  have hle := strKeys_le h1 Tryz.underlying9
  have cS := AnyZ.sorted_in Tryz.sortedA Fence.wide 5 trivial trivial trivial trivial rfl (by omega) (sortsA _) (enters_of Tryz.func85 (by kernel_rfl) rfl) 86 #[.pointer (some ⟨g, 0, none⟩)] trivial (enters_of Tryz.func86 (by kernel_rfl) rfl) _ (Maps.size D) (by simp only [maxLen]; omega) (by omega) _ hseq
  refine Runs.of_calls (callsIn_wide.1 cS) ?_
  rintro e w' ⟨v, ss, rfl, ⟨hp, hS⟩, hrow, hnil, hb⟩
  refine ⟨_, rfl, Ext.of_below hb, ?_⟩
  have hsl : (srt ss).length = ss.length := srt_len ss
  have hall : ∀ s ∈ srt ss, s.length ≤ 9223372036854775807 := fun s hs => hle s (hp.mem_iff.1 (List.mem_mergeSort.1 hs))
  have hset : SetL S ((srt ss).map Bw.strOf) := by
    have tr : ∀ a b c : List UInt8, decide (a ≤ b) = true → decide (b ≤ c) = true → decide (a ≤ c) = true := fun a b c h1 h2 => by simp only [decide_eq_true_eq] at *; exact List.le_trans h1 h2
    have to : ∀ a b : List UInt8, (decide (a ≤ b) || decide (b ≤ a)) = true := fun a b => by simp only [Bool.or_eq_true, decide_eq_true_eq]; exact List.le_total a b
    have hpw := List.pairwise_mergeSort tr to ss
    have hnd : (srt ss).Nodup := (List.mergeSort_perm ss _).nodup_iff.2 (hp.nodup_iff.2 (strKeys_nodup h1))
    refine ⟨List.pairwise_map.2 ((hpw.and hnd).imp fun {a b} hab => ?_), fun s => ?_⟩
    · rw [Bw.strOf_list, Bw.strOf_list]
      have h3 := hab.1
      simp only [decide_eq_true_eq] at h3
      exact Decidable.byContradiction fun h => hab.2 (List.le_antisymm h3 (List.not_lt.1 h))
    · constructor
      · intro h
        obtain ⟨x, hx, rfl⟩ := List.mem_map.1 h
        have h3 := (hS x).1 (List.mem_mergeSort.1 hx)
        refine (h2 _).1.1 ?_
        rw [kL, Bw.strOf_list]; exact h3
      · intro h
        have h3 := (hS s.data.toList).2 ((h2 s).1.2 h)
        exact List.mem_map.2 ⟨_, List.mem_mergeSort.2 h3, by simp [Bw.strOf]⟩
  have hlen : ((srt ss).map Bw.strOf).length = ss.length := by rw [List.length_map, hsl]
  have key : ∀ A c, v = .slice A ss.length c → ∃ A c l, v = .slice A l.length c ∧ OwnE encS w' w.heap.size 9 (fun _ => False) A c l ∧ SetL S l := fun A c hv => by
    subst hv
    refine ⟨A, c, _, by rw [hlen], ?_, hset⟩
    refine sl_strs (own_ofStrs ?_) hall _
    rw [hsl]; exact hrow
  rcases hrow.2 with ⟨h3, h4⟩ | ⟨gb, cap, cur, hv, h4⟩
  · exact key none 0 (by rw [h4]; exact h3)
  · exact key _ _ hv
end Go.Proofs.YtfljbnhhkdaobaaGreat

/-
  The keys of a set, behind a slice of one's own.
-/
namespace Go.Proofs.YtfljbnhhkdaobaaGreat
open Go Go.RowKit Go.Proofs.Bw
set_option linter.unusedVariables false
set_option linter.unusedSimpArgs false
def sR (l : List ByteArray) : List (List Value) := l.map fun s => [.string s]
theorem sR_length (l : List ByteArray) : (sR l).length = l.length := by simp [sR]
theorem KeepsWalks.of_mod {S : Nat → Prop} {W W' : World} (hm : Bw.Mod S W W') (h : ∀ k, k < W.heap.size → S k → ∃ t, tyAt W k t) : KeepsWalks W W' :=
  ⟨hm.size, fun k o hk ho => (hm.block k (Array.getElem?_eq_some_iff.1 hk).1 fun hs => by
    obtain ⟨t, c, fz, h1⟩ := h k (Array.getElem?_eq_some_iff.1 hk).1 hs
    rw [hk] at h1; cases h1; cases ho).trans hk⟩
theorem KpOk.walks {B : Nat} : KpOk B KeepsWalks := ⟨fun X Y Z h k => h.trans k, fun W l o o' _ h _ hw => KeepsWalks.putObj o' h hw⟩
theorem box_ty {w : World} {g : Nat} {vs : List Value} (h : Box w g vs) : ∃ t, tyAt w g t := by
  obtain ⟨ty, h⟩ := h
  exact ⟨ty, _, _, h⟩
theorem Holds.nilR {ρ : List Nat} {w w' : World} (h : Holds ρ [] w) (hs : w.heap.size ≤ w'.heap.size) : Holds ρ [] w' := ⟨fun k cs hk => (by cases hk), h.ne, fun i hi => Nat.lt_of_lt_of_le (h.lt i hi) hs, fun k cs hk => (by cases hk)⟩
theorem ty_nc {W : World} {B k : Nat} {t : TypeId} (h : tyAt W k t) : ¬ NC B W k := fun ⟨_, o, h1, h2⟩ => by
  obtain ⟨c, fz, h3⟩ := h
  rw [h3] at h1; cases h1; cases h2
set_option maxRecDepth 20000 in
set_option maxHeartbeats 1000000 in
theorem AppendSeq_runs {S : ByteArray → Prop} {b n g lo : Nat} (A : Option Addr) (c : Nat) (l : List ByteArray) (w : World) (ho : OwnO w lo 9 1 A c (sR l)) (hlo : lo ≤ w.heap.size) (hm : OM w b n S) (hg : KBox w g b)
    (hsz : l.length + n ≤ 8000000000000) :
    Runs Tryz.prog 87 #[.slice A l.length c, .func (.func 86) #[] #[.pointer (some ⟨g, 0, none⟩)]] w fun v w' => Bw.Mod (ownOf A) w w' ∧ ∃ A' c' l2, v = .slice A' (l ++ l2).length c' ∧ OwnO w' lo 9 1 A' c' (sR (l ++ l2)) ∧ (∀ k, ownOf A' k → ownOf A k ∨ w.heap.size ≤ k) ∧ l2.length ≤ n ∧ (∀ s ∈ l2, s.size ≤ 9223372036854775807) ∧ ∀ s, s ∈ l2 ↔ S s := by
  refine Runs.of_vcR (ρ := []) cx_ok 60 [0, 1, 2, 4, 5, 6, 7] [.v (.slice A l.length c), .f 86 [] [.v (.pointer (some ⟨g, 0, none⟩))]] Tryz.func87 rfl rfl rfl (Holds.nil w) ?_
  intro g1 w1 e1 x1 z1 hh1
  obtain ⟨D, h1, h2⟩ := hm
  have hsz1 := h1.size_le
  have hst := AnyZ.keys_stops (ρ := Tryz.keysA_ren) { Tryz.keysA with } (Wf none) 9 trivial rfl (by omega) g b n D w hg.2 hg.1 h1
  refine ⟨KeepsWalks, KpOk.walks, List UInt8, 86, [.v (.pointer (some ⟨g, 0, none⟩))], fun x => [encStr x], _, _, Maps.size D, w, fun _ => [], fun _ => [],
    fun pre W => ∃ A' c', Box W g1 [.slice A' (l ++ pre.map Bw.strOf).length c'] ∧ OwnO W lo 9 1 A' c' (sR (l ++ pre.map Bw.strOf)) ∧ (∀ k, ownOf A' k → ownOf A k ∨ w1.heap.size ≤ k) ∧ Bw.Mod (ownOf A) w W ∧ w1.heap.size ≤ W.heap.size ∧ pre.length ≤ Maps.size D, fun _ _ => False,
    ⟨rfl, rfl, rfl, fun _ => rfl⟩, ⟨hst, x1.below⟩, fun _ => ⟨rfl, rfl⟩, ?_, ?_, ?_, ?_, fun D pre W _ _ _ h _ => h.elim⟩
  · intro s W W'
    refine ⟨fun ⟨A', c', b1, o1, f1, m1, q1, n1⟩ hmm => ⟨A', c', b1.mod hmm ?_, o1.mod hmm (fun a ha => ty_nc (o1.ty ha)), f1, m1.trans' hmm (fun k hk hs => by have := hs.1; omega), Nat.le_trans q1 hmm.size, n1⟩, fun h _ => h⟩
    obtain ⟨t, ht⟩ := box_ty b1
    exact ty_nc ht
  · refine ⟨(by repeat (first | exact trivial | refine And.intro rfl ?_)), A, c, ?_, ?_, fun k hk => .inl hk, Mod.mono x1 fun k h => h.elim, Nat.le_refl _, Nat.zero_le _⟩
    · have : Box w1 g1 [.slice A l.length c] := hh1.box 0 _ rfl
      simpa using this
    · simpa using ho.ext x1
  · rintro pre x W hW ⟨A', c', b1, o1, f1, m1, q1, n1⟩ hlt
    have hl1 : (l ++ pre.map Bw.strOf).length = l.length + pre.length := by simp
    have hg1A : ∀ a, A' = some a → a.block ≠ g1 := fun a ha hk => by
      rcases f1 _ ⟨a, ha, rfl⟩ with h | h
      · obtain ⟨a', ha', h⟩ := h
        have := (ho.block ha').2
        omega
      · omega
    refine OpT.loadB Tryz.isAgg28 rfl b1 rfl ?_
    refine Lands.v hW ?_
    refine OpT.buildSlice (cs := #[encStr x]) (.cons rfl .nil) Tryz.underlying28 Tryz.sizeOf9 Tryz.zeroValue9 rfl (by kernel_rfl) fun w2 g2 e2 x2 z2 b2 => ?_
    refine Lands.v (hW.ext x2) ?_
    refine OpT.appendO1 elS1 Tryz.underlying28 rfl rfl (o1.ext x2) b2 (by rw [sR_length]) rfl rfl (css' := sR (l ++ (pre ++ [x]).map Bw.strOf)) (by simp [sR, encStr, Bw.strOf]) (n' := (l ++ (pre ++ [x]).map Bw.strOf).length) (sR_length _) ?_ (by omega) fun w3 A3 c3 m3 o3 f3 => ?_
    · rw [sR_length, List.length_append, List.length_map, List.length_append]
      simp only [List.length_cons, List.length_nil]
      omega
    have hg1A' : ¬ ownOf A' g1 := fun ⟨a, ha, h⟩ => hg1A a ha h.symm
    refine Lands.v ((hW.ext x2).mod m3 fun i hi => ?_) ?_
    · have h0 : i = 0 := by simpa using hi
      subst h0
      exact hg1A'
    have b3 : Box w3 g1 _ := (b1.ext x2).mod m3 hg1A'
    refine OpT.store Tryz.sizeOf28 rfl rfl rfl b3 rfl fun w4 m4 z4 b4 => ?_
    have hmS : Bw.Mod (fun k => ownOf A' k ∨ k = g1) W w4 := ((Mod.mono x2 fun k h => h.elim).trans (m3.mono fun k h => .inl h)).trans (m4.mono fun k h => .inr h)
    have hty : ∀ k, k < W.heap.size → (ownOf A' k ∨ k = g1) → ∃ t, tyAt W k t := fun k _ hk => by
      rcases hk with ⟨a, ha, rfl⟩ | rfl
      · exact ⟨_, o1.ty ha⟩
      · exact box_ty b1
    have hg1lo : ∀ a, A3 = some a → a.block ≠ g1 := fun a ha hk => by
      rcases f3 _ ⟨a, ha, rfl⟩ with h | h
      · rw [hk] at h; exact hg1A' h
      · have := x2.size; omega
    refine Lands.v (Holds.nilR (ρ := [g1]) (((hW.ext x2).mod m3 fun i hi => ?_)) m4.size) ?_
    · have h0 : i = 0 := by simpa using hi
      subst h0
      exact hg1A'
    refine ⟨(by repeat (first | exact trivial | refine And.intro rfl ?_)), ⟨A3, c3, b4, o3.mod m4 fun a ha hs => hg1lo a ha hs, fun k hk => ?_, m1.trans' hmS fun k hk hs => ?_, ?_, ?_⟩, KeepsFrom.of_mod hmS fun k hB hs => ?_, KeepsWalks.of_mod hmS hty⟩
    · rcases f3 _ hk with h | h
      · exact f1 _ h
      · have := x2.size; exact .inr (by omega)
    · rcases hs with h | rfl
      · rcases f1 _ h with h | h
        · exact h
        · omega
      · omega
    · have := hmS.size; omega
    · simp only [List.length_append, List.length_cons, List.length_nil]; omega
    · rcases hs with ⟨a, ha, rfl⟩ | rfl
      · obtain ⟨c, fz, h⟩ := o1.ty ha
        exact ⟨_, h, rfl⟩
      · obtain ⟨t, c, fz, h⟩ := box_ty b1
        exact ⟨_, h, rfl⟩
  · rintro D xs W hD ⟨hp, hS⟩ hW ⟨A', c', b1, o1, f1, m1, q1, n1⟩ hK
    refine OpT.loadB Tryz.isAgg28 rfl b1 rfl ?_
    refine Lands.v hW ?_
    refine ⟨hK, fun w7 m7 hh7 => ?_⟩
    have hDn : ∀ a, A' = some a → ¬ a.block = D := fun a ha h => by
      obtain ⟨c, fz, h1⟩ := o1.ty ha
      rw [h, hK] at h1; cases h1
    refine ⟨m1.trans' m7 fun k hk hs => ?_, A', c', xs.map Bw.strOf, rfl, o1.mod m7 hDn, fun k hk => ?_, ?_, fun s hs => ?_, fun s => ?_⟩
    · have hs : k = D := hs
      omega
    · rcases f1 _ hk with h | h
      · exact .inl h
      · exact .inr (by omega)
    · rw [List.length_map]; omega
    · obtain ⟨x, hx, rfl⟩ := List.mem_map.1 hs
      rw [Bw.strOf_size]
      exact strKeys_le h1 Tryz.underlying9 x (hp.mem_iff.1 hx)
    · constructor
      · intro h
        obtain ⟨x, hx, rfl⟩ := List.mem_map.1 h
        have h3 := (hS x).1 hx
        refine (h2 _).1.1 ?_
        rw [kL, Bw.strOf_list]; exact h3
      · intro h
        exact List.mem_map.2 ⟨_, (hS s.data.toList).2 ((h2 s).1.2 h), by simp [Bw.strOf]⟩
end Go.Proofs.YtfljbnhhkdaobaaGreat

/-
  What a name uses.
-/
namespace Go.Proofs.YtfljbnhhkdaobaaGreat
open Go Go.RowKit Go.Proofs.Bw
set_option linter.unusedVariables false
set_option linter.unusedSimpArgs false
theorem OM.congr {w : World} {b n : Nat} {S S' : ByteArray → Prop} (h : OM w b n S) (hs : ∀ q, S q ↔ S' q) : OM w b n S' := by
  obtain ⟨D, h1, h2⟩ := h
  exact ⟨D, h1, fun s => ⟨(h2 s).1.trans (hs s), fun h => (h2 s).2 ((hs s).2 h)⟩⟩
set_option maxRecDepth 20000 in
set_option maxHeartbeats 1000000 in
theorem look_runs {S : ByteArray → Prop} {R2 : Nat → Prop} (t : T) (cs : List Value) (g b nn : Nat) (w : World) (hv : VT w R2 cs t) (hg : Box w g [.map (some b)]) (hm : OM w b nn S) (hgb : g ≠ b) (hn : nn ≤ 8000000000000) :
    Runs Tryz.prog 103 #[.agg cs.toArray, .pointer (some ⟨g, 0, none⟩)] w fun v w' => Bw.Mod (fun k => k = b) w w' ∧ ∃ n', n' ≤ nn + 65536 ∧ OM w' b n' (fun q => S q ∨ q ∈ nms t) := by
  have hv0 := hv
  obtain ⟨k, n, s, ls, ts, la, lc, ta, tc, et, rfl, hk, hn, hs, hll, hlt, hL, hT⟩ := hv.inv
  have hh := Holds.one (g := g) (cs := [.v (.map (some b))]) hg rfl
  have hbl := hm.lt
  refine Runs.of_vc (ρ := [g]) cx_ok [0, 1, 2, 4, 6, 7, 8, 9] [.a [.v (.int .u8 k), .v (.int .i64 n), .v (.string s), .v (.slice la ls.length lc), .v (.slice ta ts.length tc)], .p 0 0] Tryz.func103 rfl rfl rfl hh ?_
  intro g1 w1 e1 x1 z1 hh1
  refine vcV (nmsE_runs t _ w1 R2 (fun _ => False) (hv0.ext x1)) hh1 fun v2 w2 x2 z2 hh2 p2 => ?_
  obtain ⟨A2, c2, rfl, o2⟩ := p2
  have y2 := x1.trans x2
  have hle := nmsE_len t
  have hq2 : w.heap.size ≤ w2.heap.size := y2.size
  refine vLoop_upd (σ := Nat) [4, 8, 9, 10, 11, 12, 13, 14] (fun i => [(8, .v (.int .i64 i))]) [] (fun _ => []) (fun i w' => Bw.Mod (fun k => k = b) w2 w' ∧ i ≤ (nms t).length ∧ ∃ n', n' ≤ nn + i ∧ OM w' b n' (fun q => S q ∨ q ∈ (nms t).take i)) (fun i => (nms t).length - i) 0 (fun _ => ⟨rfl, rfl⟩)
    ⟨(by repeat (first | exact trivial | refine And.intro rfl ?_)), (by repeat (first | exact trivial | refine And.intro rfl ?_)), (by repeat (first | exact trivial | refine And.intro rfl ?_)), (by repeat (first | exact trivial | refine And.intro rfl ?_)), Mod.refl _ _, Nat.zero_le _, nn, by omega, (hm.ext y2).congr fun q => by simp⟩ ?_
  rintro i w3 hh3 ⟨m3, hi, n', hn', om3⟩
  have o3 : OwnE encS w3 w1.heap.size 9 (fun _ => False) A2 c2 (nms t) := o2.mod m3 fun k hk hs => ⟨fun h => h, by have hs : k = b := hs; omega⟩
  refine Or.inl (And.intro (fun h => ?_) (fun h => ?_))
  · have hil : i < (nms t).length := by have := of_decide_eq_true h; omega
    obtain ⟨a1, cs, ha1, _, hrow, rfl, hsz1⟩ := o3.sl.at hil
    refine OpT.indexAddr Tryz.underlying28 Tryz.sizeOf9 rfl rfl ha1 (by first | omega | (simp only [lenOk] at *; omega)) ?_; refine Lands.v hh3 ?_
    refine OpT.load Tryz.isAgg9 rfl (hrow.cell 0 rfl) ?_; refine Lands.v hh3 ?_
    refine OpT.putS rfl rfl rfl (by simp only [maxLen]; omega) (by simp only [maxLen]; omega) om3 fun w4 m4 om4 => ?_
    have hm4 : Bw.Mod (fun k => k = b) w3 w4 := m4
    refine Lands.v (hh3.mod hm4 fun i hi => ?_) ?_
    · simp only [List.length_cons, List.length_nil] at hi
      have hi : i = 0 ∨ i = 1 := by omega
      rcases hi with rfl | rfl
      · exact hgb
      · show ¬ g1 = b; omega
    refine vsd (by simp only [inKind]; omega) ?_
    exact Exists.intro (i + 1) ⟨by omega, esub_over (by repeat (first | exact trivial | refine And.intro rfl ?_)) (by repeat (first | exact trivial | refine And.intro rfl ?_)), hsub_over (by repeat (first | exact trivial | refine And.intro rfl ?_)) (by repeat (first | exact trivial | refine And.intro rfl ?_)), m3.trans hm4, hil, n' + 1, by omega, om4.congr fun q => by rw [List.take_succ_eq_append_getElem hil, List.mem_append, List.mem_singleton, or_assoc]⟩
  · obtain rfl : i = (nms t).length := by have := of_decide_eq_false h; omega
    refine ⟨(Mod.mono y2 fun _ h => h.elim).trans m3, n', by omega, om3.congr fun q => by rw [List.take_length]⟩
end Go.Proofs.YtfljbnhhkdaobaaGreat
