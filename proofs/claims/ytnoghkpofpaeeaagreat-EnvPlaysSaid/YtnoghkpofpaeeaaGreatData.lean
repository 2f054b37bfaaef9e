/-
  Levels and terms, as this session's proofs have them, and how they lie in memory.
-/
import Derived.Test.YtnoghkpofpaeeaaGreatOps
namespace Go.Proofs.Bw
open Go Go.RowKit

structure L where
  c : Int
  p0 : Int
  p1 : Int
  p2 : Int
  p3 : Int

inductive T where
  | mk (k n : Int) (s : ByteArray) (ls : List L) (ts : List T)

def i64ok (n : Int) : Prop := -9223372036854775808 ≤ n ∧ n ≤ 9223372036854775807
def L.cells (l : L) : List Value := [.int .i64 l.c, .int .i64 l.p0, .int .i64 l.p1, .int .i64 l.p2, .int .i64 l.p3]
def L.wf (l : L) : Prop := i64ok l.c ∧ i64ok l.p0 ∧ i64ok l.p1 ∧ i64ok l.p2 ∧ i64ok l.p3

/-- A length that fits, and what lies behind it. -/
def lenOk (n c : Nat) : Prop := n ≤ c ∧ c ≤ 9223372036854775807

/-- A row of levels at an address. -/
def SlL (w : World) (R : Nat → Prop) (A : Option Addr) (ls : List L) : Prop :=
  ∀ i l, ls[i]? = some l → ∃ a, A = some a ∧ R a.block ∧ RowAt w (a.add (i * 5)) l.cells ∧ l.wf

inductive VT (w : World) (R : Nat → Prop) : List Value → T → Prop where
  | mk {k n : Int} {s : ByteArray} {ls : List L} {ts : List T} {la ta : Option Addr} {lc tc : Nat} (cs : Nat → List Value) (hk : 0 ≤ k ∧ k ≤ 255) (hn : i64ok n) (hs : s.size ≤ 9223372036854775807)
      (hl : lenOk ls.length lc) (ht : lenOk ts.length tc) (hL : SlL w R la ls) (hT : ∀ i x, ts[i]? = some x → VT w R (cs i) x)
      (hR : ∀ i x, ts[i]? = some x → ∃ a, ta = some a ∧ R a.block ∧ RowAt w (a.add (i * 5)) (cs i)) :
      VT w R [.int .u8 k, .int .i64 n, .string s, .slice la ls.length lc, .slice ta ts.length tc] (.mk k n s ls ts)

/-- A row of terms at an address. -/
def SlT (w : World) (R : Nat → Prop) (A : Option Addr) (ts : List T) : Prop :=
  ∃ cs : Nat → List Value, (∀ i x, ts[i]? = some x → VT w R (cs i) x) ∧ ∀ i x, ts[i]? = some x → ∃ a, A = some a ∧ R a.block ∧ RowAt w (a.add (i * 5)) (cs i)

theorem VT.inv {w : World} {R : Nat → Prop} {cs : List Value} {t : T} (h : VT w R cs t) : ∃ k n s ls ts la lc ta tc, t = .mk k n s ls ts ∧
    cs = [.int .u8 k, .int .i64 n, .string s, .slice la ls.length lc, .slice ta ts.length tc] ∧ (0 ≤ k ∧ k ≤ 255) ∧ i64ok n ∧ s.size ≤ 9223372036854775807 ∧ lenOk ls.length lc ∧ lenOk ts.length tc ∧ SlL w R la ls ∧ SlT w R ta ts := by
  cases h with
  | mk cs hk hn hs hl ht hL hT hR => exact ⟨_, _, _, _, _, _, _, _, _, rfl, rfl, hk, hn, hs, hl, ht, hL, cs, hT, hR⟩

theorem VT.intro {w : World} {R : Nat → Prop} {k n : Int} {s : ByteArray} {ls : List L} {ts : List T} {la ta : Option Addr} {lc tc : Nat} (hk : 0 ≤ k ∧ k ≤ 255) (hn : i64ok n) (hs : s.size ≤ 9223372036854775807)
    (hl : lenOk ls.length lc) (ht : lenOk ts.length tc) (hL : SlL w R la ls) (hT : SlT w R ta ts) :
    VT w R [.int .u8 k, .int .i64 n, .string s, .slice la ls.length lc, .slice ta ts.length tc] (.mk k n s ls ts) := by
  obtain ⟨cs, h1, h2⟩ := hT
  exact .mk cs hk hn hs hl ht hL h1 h2

theorem SlL.mod {S R : Nat → Prop} {w w' : World} {A : Option Addr} {ls : List L} (h : SlL w R A ls) (hm : Mod S w w') (hS : ∀ k, R k → ¬ S k) : SlL w' R A ls := by
  intro i l hl
  obtain ⟨a, h1, h2, h3, h4⟩ := h i l hl
  exact ⟨a, h1, h2, h3.mod hm (by rw [block_add]; exact hS _ h2), h4⟩
theorem VT.mod {S R : Nat → Prop} {w w' : World} {cs : List Value} {t : T} (h : VT w R cs t) (hm : Mod S w w') (hS : ∀ k, R k → ¬ S k) : VT w' R cs t := by
  induction h with
  | mk cs hk hn hs hl ht hL hT hR ih =>
    refine .mk cs hk hn hs hl ht (hL.mod hm hS) ih fun i x hx => ?_
    obtain ⟨a, h1, h2, h3⟩ := hR i x hx
    exact ⟨a, h1, h2, h3.mod hm (by rw [block_add]; exact hS _ h2)⟩
theorem VT.ext {R : Nat → Prop} {w w' : World} {cs : List Value} {t : T} (h : VT w R cs t) (hm : Ext w w') : VT w' R cs t := h.mod hm fun _ _ h => h
theorem SlL.ext {R : Nat → Prop} {w w' : World} {A : Option Addr} {ls : List L} (h : SlL w R A ls) (hm : Ext w w') : SlL w' R A ls := h.mod hm fun _ _ h => h
theorem SlT.mod {S R : Nat → Prop} {w w' : World} {A : Option Addr} {ts : List T} (h : SlT w R A ts) (hm : Mod S w w') (hS : ∀ k, R k → ¬ S k) : SlT w' R A ts := by
  obtain ⟨cs, h1, h2⟩ := h
  refine ⟨cs, fun i x hx => (h1 i x hx).mod hm hS, fun i x hx => ?_⟩
  obtain ⟨a, ha, hb, hc⟩ := h2 i x hx
  exact ⟨a, ha, hb, hc.mod hm (by rw [block_add]; exact hS _ hb)⟩
theorem SlT.ext {R : Nat → Prop} {w w' : World} {A : Option Addr} {ts : List T} (h : SlT w R A ts) (hm : Ext w w') : SlT w' R A ts := h.mod hm fun _ _ h => h

theorem VT.upd {R : Nat → Prop} {w w' : World} {g : Nat} {cs : List Value} {t : T} (h : VT w R cs t) (hm : Upd g w w') (hg : ¬ R g) : VT w' R cs t := h.mod hm fun k hk e => hg (by rw [← e]; exact hk)
theorem SlT.upd {R : Nat → Prop} {w w' : World} {g : Nat} {A : Option Addr} {ts : List T} (h : SlT w R A ts) (hm : Upd g w w') (hg : ¬ R g) : SlT w' R A ts := h.mod hm fun k hk e => hg (by rw [← e]; exact hk)
theorem SlL.upd {R : Nat → Prop} {w w' : World} {g : Nat} {A : Option Addr} {ls : List L} (h : SlL w R A ls) (hm : Upd g w w') (hg : ¬ R g) : SlL w' R A ls := h.mod hm fun k hk e => hg (by rw [← e]; exact hk)
theorem SlL.mono {R R' : Nat → Prop} {w : World} {A : Option Addr} {ls : List L} (h : SlL w R A ls) (hr : ∀ k, R k → R' k) : SlL w R' A ls := by
  intro i l hl
  obtain ⟨a, h1, h2, h3⟩ := h i l hl
  exact ⟨a, h1, hr _ h2, h3⟩
theorem VT.mono {R R' : Nat → Prop} {w : World} {cs : List Value} {t : T} (h : VT w R cs t) (hr : ∀ k, R k → R' k) : VT w R' cs t := by
  induction h with
  | mk cs hk hn hs hl ht hL hT hR ih =>
    refine .mk cs hk hn hs hl ht (hL.mono hr) ih fun i x hx => ?_
    obtain ⟨a, h1, h2, h3⟩ := hR i x hx
    exact ⟨a, h1, hr _ h2, h3⟩
theorem SlT.mono {R R' : Nat → Prop} {w : World} {A : Option Addr} {ts : List T} (h : SlT w R A ts) (hr : ∀ k, R k → R' k) : SlT w R' A ts := by
  obtain ⟨cs, h1, h2⟩ := h
  refine ⟨cs, fun i x hx => (h1 i x hx).mono hr, fun i x hx => ?_⟩
  obtain ⟨a, ha, hb, hc⟩ := h2 i x hx
  exact ⟨a, ha, hr _ hb, hc⟩

theorem VT.length {w : World} {R : Nat → Prop} {cs : List Value} {t : T} (h : VT w R cs t) : cs.length = 5 := by cases h; rfl
theorem SlT.at {w : World} {R : Nat → Prop} {A : Option Addr} {ts : List T} (h : SlT w R A ts) {i : Nat} (hi : i < ts.length) :
    ∃ a cs, A = some a ∧ R a.block ∧ RowAt w (a.add (i * 5)) cs ∧ VT w R cs ts[i] := by
  obtain ⟨cs, h1, h2⟩ := h
  have he : ts[i]? = some ts[i] := List.getElem?_eq_getElem hi
  obtain ⟨a, ha, hb, hc⟩ := h2 i _ he
  exact ⟨a, cs i, ha, hb, hc, h1 i _ he⟩
theorem SlL.at {w : World} {R : Nat → Prop} {A : Option Addr} {ls : List L} (h : SlL w R A ls) {i : Nat} (hi : i < ls.length) :
    ∃ a, A = some a ∧ R a.block ∧ RowAt w (a.add (i * 5)) ls[i].cells ∧ ls[i].wf := h i _ (List.getElem?_eq_getElem hi)
theorem SlT.nil (w : World) (R : Nat → Prop) (A : Option Addr) : SlT w R A [] := ⟨fun _ => [], fun i x h => by simp at h, fun i x h => by simp at h⟩
theorem SlL.nil (w : World) (R : Nat → Prop) (A : Option Addr) : SlL w R A [] := fun i x h => by simp at h

theorem T.ind {p : T → Prop} (h : ∀ k n s ls ts, (∀ x ∈ ts, p x) → p (.mk k n s ls ts)) : ∀ t, p t :=
  T.rec (motive_1 := p) (motive_2 := fun ts => ∀ x ∈ ts, p x) (fun k n s ls ts ih => h k n s ls ts ih) (fun x hx => by cases hx)
    (fun t ts h1 h2 x hx => by cases hx with | head => exact h1 | tail _ hx => exact h2 x hx)

/-! what is known lies in blocks that are there -/
theorem RowAt.lt {w : World} {p : Addr} {cs : List Value} (h : RowAt w p cs) (hn : 0 < cs.length) : p.block < w.heap.size := by
  have := World.block_lt_of_cell? w _ (h 0 cs[0] (List.getElem?_eq_getElem hn))
  rwa [block_add] at this
theorem SlL.small {w : World} {R : Nat → Prop} {A : Option Addr} {ls : List L} (h : SlL w R A ls) : SlL w (fun k => R k ∧ k < w.heap.size) A ls := by
  intro i l hl
  obtain ⟨a, h1, h2, h3, h4⟩ := h i l hl
  exact ⟨a, h1, ⟨h2, by have := h3.lt (by show 0 < 5; omega); rwa [block_add] at this⟩, h3, h4⟩
theorem VT.small {w : World} {R : Nat → Prop} {cs : List Value} {t : T} (h : VT w R cs t) : VT w (fun k => R k ∧ k < w.heap.size) cs t := by
  induction h with
  | mk cs hk hn hs hl ht hL hT hR ih =>
    refine .mk cs hk hn hs hl ht hL.small ih fun i x hx => ?_
    obtain ⟨a, h1, h2, h3⟩ := hR i x hx
    exact ⟨a, h1, ⟨h2, by have := h3.lt (by rw [(hT i x hx).length]; omega); rwa [block_add] at this⟩, h3⟩
theorem SlT.small {w : World} {R : Nat → Prop} {A : Option Addr} {ts : List T} (h : SlT w R A ts) : SlT w (fun k => R k ∧ k < w.heap.size) A ts := by
  obtain ⟨cs, h1, h2⟩ := h
  refine ⟨cs, fun i x hx => (h1 i x hx).small, fun i x hx => ?_⟩
  obtain ⟨a, ha, hb, hc⟩ := h2 i x hx
  exact ⟨a, ha, ⟨hb, by have := hc.lt (by rw [(h1 i x hx).length]; omega); rwa [block_add] at this⟩, hc⟩

/-! what is built -/
theorem SlL.box1 {w : World} {R : Nat → Prop} {g : Nat} {l : L} (b : Box w g l.cells) (hR : R g) (hw : l.wf) : SlL w R (some ⟨g, 0, none⟩) [l] := by
  intro i l' hl
  match i, hl with
  | 0, hl =>
    cases hl
    exact ⟨_, rfl, hR, by have := b.rowAt 0; exact this, hw⟩
theorem SlT.box1 {w : World} {R : Nat → Prop} {g : Nat} {c1 : List Value} {t1 : T} (b : Box w g c1) (hR : R g) (h1 : VT w R c1 t1) : SlT w R (some ⟨g, 0, none⟩) [t1] := by
  refine ⟨fun _ => c1, fun i x hx => ?_, fun i x hx => ?_⟩
  · match i, hx with
    | 0, hx => cases hx; exact h1
  · match i, hx with
    | 0, hx =>
      cases hx
      exact ⟨_, rfl, hR, by have := b.rowAt 0; exact this⟩
theorem SlT.box2 {w : World} {R : Nat → Prop} {g : Nat} {c1 c2 : List Value} {t1 t2 : T} (b : Box w g (c1 ++ c2)) (hR : R g) (h1 : VT w R c1 t1) (h2 : VT w R c2 t2) : SlT w R (some ⟨g, 0, none⟩) [t1, t2] := by
  refine ⟨fun i => if i = 0 then c1 else c2, fun i x hx => ?_, fun i x hx => ?_⟩
  · match i, hx with
    | 0, hx => cases hx; exact h1
    | 1, hx => cases hx; exact h2
  · match i, hx with
    | 0, hx =>
      cases hx
      have hr := (b.rowAt 0).take 5
      refine ⟨_, rfl, hR, ?_⟩
      have e : ((c1 ++ c2).drop 0).take 5 = c1 := by rw [List.drop_zero, ← h1.length, List.take_left]
      rw [e] at hr
      exact hr
    | 1, hx =>
      cases hx
      have hr := b.rowAt 5
      refine ⟨_, rfl, hR, ?_⟩
      have e : (c1 ++ c2).drop 5 = c2 := by rw [← h1.length, List.drop_left]
      rw [e] at hr
      exact hr
end Go.Proofs.Bw
