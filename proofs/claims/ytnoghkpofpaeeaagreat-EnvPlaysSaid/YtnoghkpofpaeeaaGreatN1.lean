/-
  The names of what a term names, as the program gathers them.
-/
import Derived.Test.YtnoghkpofpaeeaaGreatCx
import Derived.Test.YtnoghkpofpaeeaaGreatOwn2
import Derived.Test.YtnoghkpofpaeeaaGreatFns3
import Derived.Test.YtnoghkpofpaeeaaGreatShelfP
namespace Go.Proofs.YtnoghkpofpaeeaaGreat
open Go Go.RowKit Go.Proofs.Bw
set_option linter.unusedVariables false
set_option linter.unusedSimpArgs false

def nm1 (s : ByteArray) : List (List UInt8) := if s.size = 0 then [] else [s.data.toList]
mutual
def names : T → List (List UInt8)
  | .mk _ _ s _ ts => nm1 s ++ namess ts
def namess : List T → List (List UInt8)
  | [] => []
  | t :: r => names t ++ namess r
end
theorem namess_append (a b : List T) : namess (a ++ b) = namess a ++ namess b := by
  induction a with
  | nil => simp [namess]
  | cons t r ih => simp only [List.cons_append, namess, ih, List.append_assoc]
theorem namess_take (ts : List T) (k : Nat) (h : k < ts.length) : namess (ts.take (k + 1)) = namess (ts.take k) ++ names ts[k] := by
  rw [take_snoc ts k h, namess_append]; simp [namess]
theorem nm1_len (s : ByteArray) : (nm1 s).length ≤ 1 := by unfold nm1; split <;> simp
theorem names_len (t : T) : (names t).length ≤ size t := by
  refine T.rec (motive_1 := fun t => (names t).length ≤ size t) (motive_2 := fun ts => (namess ts).length ≤ sizes ts) ?_ ?_ ?_ t
  · intro k n s ls ts ih
    have := nm1_len s
    simp only [names, size, List.length_append]; omega
  · simp [namess, sizes]
  · intro t r h1 h2
    simp only [namess, sizes, List.length_append]; omega
def zR (l : List (List UInt8)) : List (List Value) := l.map fun s => [encStr s]
theorem zR_length (l : List (List UInt8)) : (zR l).length = l.length := by simp [zR]
theorem zR_append (a b : List (List UInt8)) : zR (a ++ b) = zR a ++ zR b := by simp [zR]
theorem elS : ElOk Tryz.prog 9 1 16 := ⟨⟨Tryz.t9, Tryz.t9.zero.get rfl, by kernel_rfl, rfl, rfl, rfl, rfl⟩, by omega⟩
def gOf (g : Nat) (A : Option Addr) : Nat → Prop := fun k => k = g ∨ ownOf A k
set_option maxRecDepth 20000 in
theorem Names1_runs {lo : Nat} (k n : Int) (s : ByteArray) (la ta : Option Addr) (ln lc tn tc : Nat) (around : Int) (g : Nat) (A : Option Addr) (c : Nat) (st : List (List UInt8)) (w : World) (bg : Box w g [.slice A st.length c]) (ho : OwnR w lo 9 1 A c (zR st)) (hg : g < lo) (hlo : lo ≤ w.heap.size) (hsz : st.length < 1000000) :
    Runs Tryz.prog 64 #[.agg #[.int .u8 k, .int .i64 n, .string s, .slice la ln lc, .slice ta tn tc], .int .i64 around, .pointer (some ⟨g, 0, none⟩)] w fun v w' => v = .bool true ∧
      ∃ A' c', Box w' g [.slice A' (st ++ nm1 s).length c'] ∧ OwnR w' lo 9 1 A' c' (zR (st ++ nm1 s)) ∧ Bw.Mod (gOf g A) w w' ∧ ∀ k, ownOf A' k → ownOf A k ∨ w.heap.size ≤ k := by
  have hh := Holds.one (g := g) (cs := [.v (.slice A st.length c)]) bg rfl
  refine Runs.of_vc (ρ := [g]) cx_ok [0, 2, 3, 5, 8] [.a [.v (.int .u8 k), .v (.int .i64 n), .v (.string s), .v (.slice la ln lc), .v (.slice ta tn tc)], .v _, .p 0 0] Tryz.func64 rfl rfl rfl hh ?_
  intro g1 w1 e1 x1 z1 hh1
  refine Or.inl (And.intro (fun h => ?_) (fun h => ?_))
  · have hs0 : s.size ≠ 0 := fun h0 => by rw [(bytes_nil s).2 h0] at h; simp at h
    have en : nm1 s = [s.data.toList] := by unfold nm1; rw [if_neg hs0]
    rw [en]
    refine OpT.buildSlice (cs := #[.string s]) (.cons rfl .nil) Tryz.underlying36 Tryz.sizeOf9 Tryz.zeroValue9 rfl (by kernel_rfl) fun w2 g2 e2 x2 z2 b2 => ?_
    refine Lands.v (hh1.ext x2) ?_
    refine OpT.append1' elS Tryz.underlying36 rfl rfl (ho.ext (x1.trans x2)) b2 (by rw [zR_length]) rfl rfl (css' := zR (st ++ [s.data.toList])) (by rw [zR_append]; rfl) (n' := (st ++ [s.data.toList]).length) (zR_length _) (by rw [zR_length, List.length_append]; simp; omega) (by omega) fun w3 A3 c3 m3 o3 f3 => ?_
    have hA : ∀ a, A = some a → lo ≤ a.block ∧ a.block < w.heap.size := fun a ha => ho.block ha
    have hh3 := (hh1.ext x2).mod m3 (fun i hi => by
      rintro ⟨a, ha, hk⟩
      have := hA a ha
      match i, hi with
      | 0, _ => have e : g = a.block := hk; omega
      | 1, _ => have e : g1 = a.block := hk; omega)
    refine Lands.v hh3 ?_
    intro w4 m4 z4 hh4
    replace m4 : Upd g w3 w4 := m4
    have hA3 : ∀ k, ownOf A3 k → k ≠ g := fun k ⟨a, ha, hk⟩ e => by have := (o3.block ha).1; omega
    refine ⟨rfl, A3, c3, hh4.box 0 _ rfl, o3.mod m4 (fun a ha e => hA3 _ ⟨a, ha, rfl⟩ e), ?_, fun k hk => (f3 k hk).imp id (fun h => by have := (x1.trans x2).size; omega)⟩
    exact ((Mod.mono (x1.trans x2) fun k hk => hk.elim).trans (m3.mono fun k hk => .inr hk)).trans (m4.mono fun k hk => .inl hk)
  · have hs0 : s.size = 0 := (bytes_nil s).1 (by simpa using h)
    have en : nm1 s = [] := by unfold nm1; rw [if_pos hs0]
    rw [en, List.append_nil]
    exact ⟨rfl, A, c, bg.ext x1, ho.ext x1, Mod.mono x1 fun k hk => hk.elim, fun k hk => .inl hk⟩
end Go.Proofs.YtnoghkpofpaeeaaGreat

