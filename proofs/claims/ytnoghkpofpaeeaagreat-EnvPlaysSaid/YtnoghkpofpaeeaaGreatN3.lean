/-
  The names, sorted, each once; what they are.
-/
import Derived.Test.YtnoghkpofpaeeaaGreatN2
import Derived.Sort.OwnSorted
import Derived.Lib.OwnBridge
namespace Go.Proofs.YtnoghkpofpaeeaaGreat
open Go Go.RowKit Go.Proofs.Bw
set_option linter.unusedVariables false
set_option linter.unusedSimpArgs false

def srt (l : List (List UInt8)) : List (List UInt8) := l.mergeSort fun x y => decide (x ≤ y)
theorem srt_len (l : List (List UInt8)) : (srt l).length = l.length := List.length_mergeSort l
theorem zR_flat (l : List (List UInt8)) : (zR l).flatten = l.map encStr := by
  induction l with
  | nil => rfl
  | cons a r ih => simp only [zR, List.map_cons, List.flatten_cons] at ih ⊢; rw [ih]; rfl
theorem zR_one (l : List (List UInt8)) : ∀ r ∈ zR l, r.length = 1 := fun r hr => by
  simp only [zR, List.mem_map] at hr
  obtain ⟨_, _, rfl⟩ := hr; rfl
theorem own_strs {w : World} {lo el c : Nat} {A : Option Addr} {l : List (List UInt8)} (h : OwnR w lo el 1 A c (zR l)) : w.ownsRow lo el 1 (.slice A l.length c) l.length (l.map encStr) := by
  have := h.2
  rwa [zR_flat, zR_length] at this
theorem own_ofStrs {w : World} {lo el c : Nat} {A : Option Addr} {l : List (List UInt8)} (h : w.ownsRow lo el 1 (.slice A l.length c) l.length (l.map encStr)) : OwnR w lo el 1 A c (zR l) :=
  ⟨zR_one l, by rw [zR_flat, zR_length]; exact h⟩
theorem Runs.of_calls {P : Program} {f : FuncId} {args : Array Value} {w : World} {K : Ending → World → Prop} {K' : Value → World → Prop} (h : Calls P f args w K) (hk : ∀ e w', K e w' → ∃ v, e = .returned v ∧ K' v w') : Runs P f args w K' := Calls.mono h hk
theorem Sort_runs {lo : Nat} (A : Option Addr) (c : Nat) (st : List (List UInt8)) (w : World) (ho : OwnR w lo 9 1 A c (zR st)) (hsz : st.length < 1000001) :
    Runs Tryz.prog 65 #[.slice A st.length c] w fun v w' => v = .tuple #[] ∧ OwnR w' lo 9 1 A c (zR (srt st)) ∧ Bw.Mod (ownOf A) w w' := by
  have h := own_strs ho
  rcases h.2 with ⟨h1, h2⟩ | ⟨g, cap, cur, hv, hb, hg, hn, hm, hs, htk⟩
  · have h0 : st = [] := List.eq_nil_of_length_eq_zero h2
    subst h0
    refine Runs.of_calls (Tryz.slices_Sort_string_none A c w) ?_
    rintro e w' ⟨rfl, rfl⟩
    exact ⟨_, rfl, rfl, by simpa [srt] using ho, Mod.refl _ _⟩
  · injection hv with e1 e2 e3
    subst e1; subst e3
    have hgl : g < w.heap.size := (Array.getElem?_eq_some_iff.1 hg).1
    rw [Nat.mul_one] at htk
    refine Runs.of_calls (Tryz.slices_Sort_string g 0 c st w (Go.holds_of_block hg htk) hgl (by omega)) ?_
    rintro e w' ⟨rfl, n, os, rfl⟩
    have hs2 := Go.ownsRow_sorted (n := n) (os := os) (ts := srt st) (ss := st) (srt_len st) hb hg hn hm hs
    rw [← srt_len st] at hs2
    exact ⟨_, rfl, rfl, own_ofStrs hs2, Mod.of_own (v := .slice (some ⟨g, 0, none⟩) 0 0) rfl (Go.grownBy_sorted _)⟩
theorem compact_len (l : List (List UInt8)) : (Lib.compact l).length ≤ l.length := Lib.compact_length_le l
theorem Compact_runs {lo : Nat} (A : Option Addr) (c : Nat) (st : List (List UInt8)) (w : World) (ho : OwnR w lo 9 1 A c (zR st)) (hsz : st.length < 1000001) :
    Runs Tryz.prog 66 #[.slice A st.length c] w fun v w' => v = .slice A (Lib.compact st).length c ∧ OwnR w' lo 9 1 A c (zR (Lib.compact st)) ∧ Bw.Mod (ownOf A) w w' := by
  have h := own_strs ho
  rcases h.2 with ⟨h1, h2⟩ | ⟨g, cap, cur, hv, hb, hg, hn, hm, hs, htk⟩
  · have h0 : st = [] := List.eq_nil_of_length_eq_zero h2
    subst h0
    refine Runs.of_calls (Tryz.slices_Compact_string_empty A c w) ?_
    rintro e w' ⟨rfl, rfl⟩
    exact ⟨_, rfl, rfl, ho, Mod.refl _ _⟩
  · injection hv with e1 e2 e3
    subst e1; subst e3
    rw [Nat.mul_one] at htk
    refine Runs.of_calls (Tryz.slices_Compact_string g 0 c st w (Go.holds_of_block hg htk) (by omega) hn) ?_
    rintro e w' ⟨rfl, q, rfl⟩
    have hc := Lib.ownsRow_putRow (q := q) (k := (Lib.compact st).length) (ys := Lib.compact st ++ List.replicate (st.length - (Lib.compact st).length) []) h (by have := compact_len st; simp; omega) (compact_len st)
    rw [List.take_left] at hc
    exact ⟨_, rfl, rfl, own_ofStrs hc, Mod.of_own (v := .slice (some ⟨g, 0, none⟩) 0 0) rfl (by
      have hgr := Go.grownBy_sorted (w := w) (g := g) (n := q) (os := #[]) (Lib.compact st ++ List.replicate (st.length - (Lib.compact st).length) []).toArray
      rwa [Go.Sort.grow_empty] at hgr)⟩
end Go.Proofs.YtnoghkpofpaeeaaGreat

