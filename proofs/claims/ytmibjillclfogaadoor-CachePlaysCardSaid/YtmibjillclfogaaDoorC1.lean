/-
  Numbers put behind bytes.
-/
import Derived.Test.YtmibjillclfogaaDoorCx
import Derived.Test.YtmibjillclfogaaDoorMap
import Derived.Test.YtmibjillclfogaaDoorFns2
import Derived.Test.YtmibjillclfogaaDoorShelfP
import Derived.Lib.AppendIntMem
namespace Go.Proofs.YtmibjillclfogaaDoor
open Go Go.RowKit Go.Proofs.Bw
set_option linter.unusedVariables false
set_option linter.unusedSimpArgs false

theorem el5 : ElOk Tryd.prog 5 1 1 := ⟨⟨Tryd.t5, Tryd.t5.zero.get rfl, by kernel_rfl, rfl, rfl, rfl, rfl⟩, by omega⟩
theorem bR_flat (l : List UInt8) : (bR l).flatten = Lib.byteCells l := by
  induction l with
  | nil => rfl
  | cons a r ih => simp only [bR, List.map_cons, List.flatten_cons] at ih ⊢; rw [ih]; rfl
/-- the table that numbers are written by -/
def Tb (B : Nat) (w : World) : Prop := Lib.TabBelow Tryd.prog B w "internal/strconv.uint64pow10" .u64 Lib.pow10Tab
theorem mod_below {S : Nat → Prop} {w w' : World} {B : Nat} (hm : Bw.Mod S w w') (hS : ∀ k, S k → B ≤ k) (hB : B ≤ w.heap.size) : Below B w w' :=
  ⟨hm.os, hm.tape, hm.output, hm.size, fun k hk => hm.block k (by omega) fun h => by have := hS k h; omega⟩
theorem below_le {w w' : World} {B lo : Nat} (h : Below lo w w') (hB : B ≤ lo) : Below B w w' := ⟨h.os, h.tape, h.output, h.size, fun k hk => h.block k (by omega)⟩
theorem below_tr {a b c : World} {B : Nat} (h : Below B a b) (k : Below B b c) : Below B a c := ⟨k.os.trans h.os, k.tape.trans h.tape, k.output.trans h.output, Nat.le_trans h.size k.size, fun i hi => (k.block i hi).trans (h.block i hi)⟩
theorem Tb.mod {S : Nat → Prop} {w w' : World} {B : Nat} (h : Tb B w) (hm : Bw.Mod S w w') (hS : ∀ k, S k → B ≤ k) (hB : B ≤ w.heap.size) : Tb B w' := fun w'' hw => h w'' (below_tr (mod_below hm hS hB) hw)
theorem Tb.ext {w w' : World} {B : Nat} (h : Tb B w) (hm : Ext w w') (hB : B ≤ w.heap.size) : Tb B w' := h.mod hm (fun _ h => h.elim) hB
theorem Tb.up {w : World} {B lo : Nat} (h : Tb B w) (hB : B ≤ lo) : Tb lo w := fun w'' hw => h w'' (below_le hw hB)
/-- blocks of bytes from lo on -/
def byB (lo : Nat) (w : World) (k : Nat) : Prop := lo ≤ k ∧ tyAt w k 5
theorem byB_trans {lo : Nat} {a b c : World} (h : Bw.Mod (byB lo a) a b) (k : Bw.Mod (byB lo b) b c) : Bw.Mod (byB lo a) a c :=
  h.trans' k fun i hi ⟨h1, h2⟩ => by
    by_cases h3 : byB lo a i
    · exact h3
    · obtain ⟨cs, fz, h2⟩ := h2
      exact ⟨h1, cs, fz, (h.block i hi h3).symm.trans h2⟩
theorem byB_ext {lo : Nat} {a b : World} (h : Ext a b) : Bw.Mod (byB lo a) a b := h.mono fun _ h => h.elim
theorem byB_upd {lo g : Nat} {a b c : World} (h : Bw.Mod (byB lo a) a b) (k : Upd g b c) (hg : a.heap.size ≤ g) : Bw.Mod (byB lo a) a c := h.trans' k fun i hi e => by have : i = g := e; omega
theorem byB_own {lo c : Nat} {a b d : World} {A : Option Addr} {css : List (List Value)} (h : Bw.Mod (byB lo a) a b) (ho : OwnR b lo 5 1 A c css) (k : Bw.Mod (ownOf A) b d) : Bw.Mod (byB lo a) a d :=
  byB_trans h (k.mono fun i ⟨p, hp, e⟩ => by
    rcases ho.2.2 with ⟨h1, _⟩ | ⟨g, cap, cur, h1, h2, h3, _⟩
    · injection h1 with h1; rw [hp] at h1; cases h1
    · injection h1 with h1
      rw [hp] at h1
      injection h1 with h1
      subst h1
      subst e
      exact ⟨h2, cur, _, h3⟩)
/-- a block of another kind is none of them -/
theorem not_byB {lo g : Nat} {w : World} {t : TypeId} (h : tyAt w g t) (ht : t ≠ 5) : ¬ byB lo w g := fun ⟨_, cs, fz, h2⟩ => by
  obtain ⟨cs', fz', h⟩ := h
  rw [h] at h2
  injection h2 with h2
  injection h2 with _ h2
  exact ht h2
theorem AppI_runs {B lo : Nat} (A : Option Addr) (c : Nat) (bs : List UInt8) (i : Int) (w : World) (ho : OwnR w lo 5 1 A c (bR bs)) (hT : Tb B w) (hB : B ≤ lo) (hlo : lo ≤ w.heap.size) (hl : bs.length ≤ 1000000000) (hi : i64ok i) :
    Runs Tryd.prog 35 #[.slice A bs.length c, .int .i64 i, .int .i64 10] w fun v w' => ∃ A' c', v = .slice A' (bs ++ Lib.itoa i).length c' ∧ OwnR w' lo 5 1 A' c' (bR (bs ++ Lib.itoa i)) ∧ Bw.Mod (byB lo w) w w' := by
  have hown := ho.2
  rw [bR_flat, bR_length] at hown
  refine Calls.mono (Tryd.strconv_AppendInt_10 lo bs.length i hi.1 hi.2 (.slice A bs.length c) (Lib.byteCells bs) w hown hlo (by omega) (hT.up hB)) ?_
  rintro e w' ⟨v', rfl, h1, h2, h3⟩
  have e1 : Lib.byteCells bs ++ Lib.byteCells (Lib.itoa i) = (bR (bs ++ Lib.itoa i)).flatten := by rw [bR_flat]; simp [Lib.byteCells]
  rw [e1, ← List.length_append] at h1
  have h4 := OwnR.of_row (css := bR (bs ++ Lib.itoa i)) (bR_len _) (by rw [bR_length]; exact h1)
  rw [bR_length] at h4
  obtain ⟨A', c', rfl, hO⟩ := h4
  refine ⟨_, rfl, A', c', rfl, hO, ⟨h2.os, h2.tape, h2.output, h2.size, fun k hk hn => ?_⟩⟩
  rcases Nat.lt_or_ge k lo with h5 | h5
  · exact h2.block k h5
  · have h6 := h3 k w.heap[k] (Array.getElem?_eq_getElem hk) (by simp) (fun cs fz e => hn ⟨h5, cs, fz, by rw [Array.getElem?_eq_getElem hk, e]⟩)
    rw [h6, Array.getElem?_eq_getElem hk]
end Go.Proofs.YtmibjillclfogaaDoor

