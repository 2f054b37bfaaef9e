/-
  DERIVED: THE SHELF's CONTRACTS AT THIS DUMP, IN PLAIN WORDS (tools/lay-plain.mjs out of 'YtfljbnhhkdaobaaGreatShelf.lean', which tools/lay-shelf.mjs wrote): THE SAME DECLARATIONS UNDER THE SAME NAMES: 'import', 'namespace', 'open', 'def', 'theorem' AND NOTHING ELSE: no command of the shelf's: FOR A HAND-IN. Each laying: the table of numbers ('.._ren') and one theorem, a field a fact of the dump's own or the kernel's comparison; each contract: ONE APPLICATION.
-/
import Derived.Shelf.Sort.Plain
import Derived.Shelf.Slices.CompactS
import Derived.Shelf.Slices.In.SortNone
import Derived.Test.YtfljbnhhkdaobaaGreatProg
import Derived.Test.YtfljbnhhkdaobaaGreatA4
import Derived.Test.YtfljbnhhkdaobaaGreatA3
import Derived.Sort.OwnSorted
import Derived.Lib.OwnBridge
import Derived.RangeFuncWrites
import Derived.RangeFuncNested
import Derived.RangeFuncBound
import Derived.RangeFuncCalls
import Derived.RangeFuncLeaves
import Derived.Shelf.Abstract
import Derived.Shelf.RegionOpen
import Derived.WalkKit
import Derived.OwnWalkIn
import Derived.TacticsInMore
import Derived.LoopNIn
import Derived.LoopIn
namespace Go.Proofs
open Go.Shelf
def Tryz.lays190_ren : Go.Shelf.Ren := ⟨fun | 190 => 85 | 125 => 120 | 258 => 119 | 128 => 149 | 129 => 150 | 302 => 140 | 303 => 141 | 304 => 142 | 305 => 143 | 306 => 144 | 307 => 145 | 308 => 146 | 309 => 147 | 310 => 148 | 333 => 167 | 329 => 168 | 330 => 169 | 334 => 170 | 335 => 171 | 336 => 172 | 344 => 178 | n => n, fun | 31 => 28 | 9 => 9 | 3 => 3 | 46 => 146 | 0 => 0 | 51 => 168 | 53 => 170 | 4 => 4 | 183 => 161 | 182 => 160 | 131 => 74 | 5 => 5 | 218 => 182 | 222 => 186 | 228 => 192 | 229 => 193 | n => n, fun | n => n⟩
theorem Tryz.lays190 : Go.Proofs.Lays.n190 Tryz.prog Tryz.lays190_ren := {
  mixed := by kernel_rfl
  f125 := Tryz.func120.trans (congrArg some (by kernel_rfl))
  f128 := Tryz.func149.trans (congrArg some (by kernel_rfl))
  f129 := Tryz.func150.trans (congrArg some (by kernel_rfl))
  f190 := Tryz.func85.trans (congrArg some (by kernel_rfl))
  f258 := Tryz.func119.trans (congrArg some (by kernel_rfl))
  f302 := Tryz.func140.trans (congrArg some (by kernel_rfl))
  f303 := Tryz.func141.trans (congrArg some (by kernel_rfl))
  f304 := Tryz.func142.trans (congrArg some (by kernel_rfl))
  f305 := Tryz.func143.trans (congrArg some (by kernel_rfl))
  f306 := Tryz.func144.trans (congrArg some (by kernel_rfl))
  f307 := Tryz.func145.trans (congrArg some (by kernel_rfl))
  f308 := Tryz.func146.trans (congrArg some (by kernel_rfl))
  f309 := Tryz.func147.trans (congrArg some (by kernel_rfl))
  f310 := Tryz.func148.trans (congrArg some (by kernel_rfl))
  f329 := Tryz.func168.trans (congrArg some (by kernel_rfl))
  f330 := Tryz.func169.trans (congrArg some (by kernel_rfl))
  f333 := Tryz.func167.trans (congrArg some (by kernel_rfl))
  f334 := Tryz.func170.trans (congrArg some (by kernel_rfl))
  f335 := Tryz.func171.trans (congrArg some (by kernel_rfl))
  f336 := Tryz.func172.trans (congrArg some (by kernel_rfl))
  f344 := Tryz.func178.trans (congrArg some (by kernel_rfl))
  t0 := Tryz.underlying0
  a0 := Tryz.isAgg0
  z0 := Tryz.sizeOf0
  v0 := Tryz.zeroValue0
  t3 := Tryz.underlying3
  a3 := Tryz.isAgg3
  z3 := Tryz.sizeOf3
  v3 := Tryz.zeroValue3
  t4 := Tryz.underlying4
  a4 := Tryz.isAgg4
  z4 := Tryz.sizeOf4
  v4 := Tryz.zeroValue4
  t5 := Tryz.underlying5
  a5 := Tryz.isAgg5
  z5 := Tryz.sizeOf5
  v5 := Tryz.zeroValue5
  t9 := Tryz.underlying9
  a9 := Tryz.isAgg9
  z9 := Tryz.sizeOf9
  v9 := Tryz.zeroValue9
  t31 := Tryz.underlying28
  a31 := Tryz.isAgg28
  z31 := Tryz.sizeOf28
  v31 := Tryz.zeroValue28
  t46 := Tryz.underlying146
  a46 := Tryz.isAgg146
  z46 := Tryz.sizeOf146
  v46 := Tryz.zeroValue146
  t51 := Tryz.underlying168
  a51 := Tryz.isAgg168
  z51 := Tryz.sizeOf168
  v51 := Tryz.zeroValue168
  t53 := Tryz.underlying170
  a53 := Tryz.isAgg170
  z53 := Tryz.sizeOf170
  v53 := Tryz.zeroValue170
  t131 := Tryz.underlying74
  a131 := Tryz.isAgg74
  z131 := Tryz.sizeOf74
  v131 := Tryz.zeroValue74
  t182 := Tryz.underlying160
  a182 := Tryz.isAgg160
  z182 := Tryz.sizeOf160
  v182 := Tryz.zeroValue160
  t183 := Tryz.underlying161
  a183 := Tryz.isAgg161
  z183 := Tryz.sizeOf161
  v183 := Tryz.zeroValue161
  t218 := Tryz.underlying182
  a218 := Tryz.isAgg182
  z218 := Tryz.sizeOf182
  v218 := Tryz.zeroValue182
  t222 := Tryz.underlying186
  a222 := Tryz.isAgg186
  z222 := Tryz.sizeOf186
  v222 := Tryz.zeroValue186
  t228 := Tryz.underlying192
  a228 := Tryz.isAgg192
  z228 := Tryz.sizeOf192
  v228 := Tryz.zeroValue192
  t229 := Tryz.underlying193
  a229 := Tryz.isAgg193
  z229 := Tryz.sizeOf193
  v229 := Tryz.zeroValue193 }
open Go.Sort Go.RowKit in
theorem Tryz.slices_Sort_string (blk off cap : Nat) (ss : List (List UInt8)) (w : World) (hH : Holds encStr w blk off ss.toArray) (hblk : blk < w.heap.size) (hsz : ss.length < 4611686018427387904) :
    Calls Tryz.prog 85 #[.slice (some ⟨blk, off, none⟩) ss.length cap] w fun e w' =>
      e = .returned (.tuple #[]) ∧ ∃ n os, w' = grow (putRow encStr (Sort.ahead w n) blk off (ss.mergeSort fun x y => decide (x ≤ y)).toArray) os := Any.slices_Sort_string Tryz.lays190 blk off cap ss w hH hblk hsz
def Tryz.lays194_ren : Go.Shelf.Ren := ⟨fun | 194 => 128 | n => n, fun | 31 => 28 | 9 => 9 | 3 => 3 | 4 => 4 | 0 => 0 | n => n, fun | n => n⟩
theorem Tryz.lays194 : Go.Proofs.Lays.n194 Tryz.prog Tryz.lays194_ren := {
  mixed := by kernel_rfl
  f194 := Tryz.func128.trans (congrArg some (by kernel_rfl))
  t0 := Tryz.underlying0
  a0 := Tryz.isAgg0
  z0 := Tryz.sizeOf0
  v0 := Tryz.zeroValue0
  t3 := Tryz.underlying3
  a3 := Tryz.isAgg3
  z3 := Tryz.sizeOf3
  v3 := Tryz.zeroValue3
  t4 := Tryz.underlying4
  a4 := Tryz.isAgg4
  z4 := Tryz.sizeOf4
  v4 := Tryz.zeroValue4
  t9 := Tryz.underlying9
  a9 := Tryz.isAgg9
  z9 := Tryz.sizeOf9
  v9 := Tryz.zeroValue9
  t31 := Tryz.underlying28
  a31 := Tryz.isAgg28
  z31 := Tryz.sizeOf28
  v31 := Tryz.zeroValue28 }
open Go.RowKit Go.Lib Go.Sort in
open Go.RowKit Go.Lib Go.Sort in
theorem Tryz.slices_Compact_string (blk off cap : Nat) (zs : List (List UInt8)) (w : World) (hH : Holds encStr w blk off zs.toArray) (hsz : zs.length ≤ 9223372036854775807) (hcap : zs.length ≤ cap) :
    Calls Tryz.prog 128 #[.slice (some ⟨blk, off, none⟩) zs.length cap] w fun e w' => e = .returned (.slice (some ⟨blk, off, none⟩) (Lib.compact zs).length cap) ∧ ∃ q, w' = putRow encStr (Sort.ahead w q) blk off (Lib.compact zs ++ List.replicate (zs.length - (Lib.compact zs).length) []).toArray := Any.slices_Compact_string Tryz.lays194 blk off cap zs w hH hsz hcap
open Go.RowKit Go.Lib Go.Sort in
theorem Tryz.slices_Compact_string_empty (a : Option Addr) (cap : Nat) (w : World) :
    Calls Tryz.prog 128 #[.slice a 0 cap] w fun e w' => e = .returned (.slice a 0 cap) ∧ w' = w := Any.slices_Compact_string_empty Tryz.lays194 a cap w
open Go.RowKit Go.Sort in
theorem Tryz.slices_Sort_string_none (p : Option Addr) (cap : Nat) (w : World) :
    Calls Tryz.prog 85 #[.slice p 0 cap] w fun e w' => e = .returned (.tuple #[]) ∧ w' = w := Any.slices_Sort_string_none Tryz.lays190 p cap w
end Go.Proofs

/-
  The names of what a term names, as the program gathers them.
-/
namespace Go.Proofs.YtfljbnhhkdaobaaGreat
open Go Go.RowKit Go.Proofs.Bw
set_option linter.unusedVariables false
set_option linter.unusedSimpArgs false
def nm1 (s : ByteArray) : List (List UInt8) := if s.size = 0 then [] else [s.data.toList]
mutual
def names : T → List (List UInt8)
  | .mk _ _ s _ ts => nm1 s ++ namess ts
def namess : List T → List (List UInt8)
  | [] => []
  | t :: r => names t ++ namess r
end
theorem namess_append (a b : List T) : namess (a ++ b) = namess a ++ namess b := by
  induction a with
  | nil => simp [namess]
  | cons t r ih => simp only [List.cons_append, namess, ih, List.append_assoc]
theorem namess_take (ts : List T) (k : Nat) (h : k < ts.length) : namess (ts.take (k + 1)) = namess (ts.take k) ++ names ts[k] := by
  rw [take_snoc ts k h, namess_append]; simp [namess]
theorem nm1_len (s : ByteArray) : (nm1 s).length ≤ 1 := by unfold nm1; split <;> simp
theorem names_len (t : T) : (names t).length ≤ size t := by
  refine T.rec (motive_1 := fun t => (names t).length ≤ size t) (motive_2 := fun ts => (namess ts).length ≤ sizes ts) ?_ ?_ ?_ t
  · intro k n s ls ts ih
    have := nm1_len s
    simp only [names, size, List.length_append]; omega
  · simp [namess, sizes]
  · intro t r h1 h2
    simp only [namess, sizes, List.length_append]; omega
def zR (l : List (List UInt8)) : List (List Value) := l.map fun s => [encStr s]
theorem zR_length (l : List (List UInt8)) : (zR l).length = l.length := by simp [zR]
theorem zR_append (a b : List (List UInt8)) : zR (a ++ b) = zR a ++ zR b := by simp [zR]
theorem elS : ElOk Tryz.prog 9 1 16 := ⟨⟨Tryz.t9, Tryz.t9.zero.get rfl, by kernel_rfl, rfl, rfl, rfl, rfl⟩, by omega⟩
def gOf (g : Nat) (A : Option Addr) : Nat → Prop := fun k => k = g ∨ ownOf A k
set_option maxRecDepth 20000 in
theorem Names1_runs {lo : Nat} (k n : Int) (s : ByteArray) (la ta : Option Addr) (ln lc tn tc : Nat) (around : Int) (g : Nat) (A : Option Addr) (c : Nat) (st : List (List UInt8)) (w : World) (bg : Box w g [.slice A st.length c]) (ho : OwnR w lo 9 1 A c (zR st)) (hg : g < lo) (hlo : lo ≤ w.heap.size) (hsz : st.length < 1000000) :
    Runs Tryz.prog 127 #[.agg #[.int .u8 k, .int .i64 n, .string s, .slice la ln lc, .slice ta tn tc], .int .i64 around, .pointer (some ⟨g, 0, none⟩)] w fun v w' => v = .bool true ∧
      ∃ A' c', Box w' g [.slice A' (st ++ nm1 s).length c'] ∧ OwnR w' lo 9 1 A' c' (zR (st ++ nm1 s)) ∧ Bw.Mod (gOf g A) w w' ∧ ∀ k, ownOf A' k → ownOf A k ∨ w.heap.size ≤ k := by
  have hh := Holds.one (g := g) (cs := [.v (.slice A st.length c)]) bg rfl
  refine Runs.of_vc (ρ := [g]) cx_ok [0, 2, 3, 5, 8] [.a [.v (.int .u8 k), .v (.int .i64 n), .v (.string s), .v (.slice la ln lc), .v (.slice ta tn tc)], .v _, .p 0 0] Tryz.func127 rfl rfl rfl hh ?_
  intro g1 w1 e1 x1 z1 hh1
  refine Or.inl (And.intro (fun h => ?_) (fun h => ?_))
  · have hs0 : s.size ≠ 0 := fun h0 => by rw [(bytes_nil s).2 h0] at h; simp at h
    have en : nm1 s = [s.data.toList] := by unfold nm1; rw [if_neg hs0]
    rw [en]
    refine OpT.buildSlice (cs := #[.string s]) (.cons rfl .nil) Tryz.underlying28 Tryz.sizeOf9 Tryz.zeroValue9 rfl (by kernel_rfl) fun w2 g2 e2 x2 z2 b2 => ?_
    refine Lands.v (hh1.ext x2) ?_
    refine OpT.append1' elS Tryz.underlying28 rfl rfl (ho.ext (x1.trans x2)) b2 (by rw [zR_length]) rfl rfl (css' := zR (st ++ [s.data.toList])) (by rw [zR_append]; rfl) (n' := (st ++ [s.data.toList]).length) (zR_length _) (by rw [zR_length, List.length_append]; simp; omega) (by omega) fun w3 A3 c3 m3 o3 f3 => ?_
    have hA : ∀ a, A = some a → lo ≤ a.block ∧ a.block < w.heap.size := fun a ha => ho.block ha
    have hh3 := (hh1.ext x2).mod m3 (fun i hi => by
      rintro ⟨a, ha, hk⟩
      have := hA a ha
      match i, hi with
      | 0, _ => have e : g = a.block := hk; omega
      | 1, _ => have e : g1 = a.block := hk; omega)
    refine Lands.v hh3 ?_
    intro w4 m4 z4 hh4
    replace m4 : Upd g w3 w4 := m4
    have hA3 : ∀ k, ownOf A3 k → k ≠ g := fun k ⟨a, ha, hk⟩ e => by have := (o3.block ha).1; omega
    refine ⟨rfl, A3, c3, hh4.box 0 _ rfl, o3.mod m4 (fun a ha e => hA3 _ ⟨a, ha, rfl⟩ e), ?_, fun k hk => (f3 k hk).imp id (fun h => by have := (x1.trans x2).size; omega)⟩
    exact ((Mod.mono (x1.trans x2) fun k hk => hk.elim).trans (m3.mono fun k hk => .inr hk)).trans (m4.mono fun k hk => .inl hk)
  · have hs0 : s.size = 0 := (bytes_nil s).1 (by simpa using h)
    have en : nm1 s = [] := by unfold nm1; rw [if_pos hs0]
    rw [en, List.append_nil]
    exact ⟨rfl, A, c, bg.ext x1, ho.ext x1, Mod.mono x1 fun k hk => hk.elim, fun k hk => .inl hk⟩
end Go.Proofs.YtfljbnhhkdaobaaGreat

/-
  All nodes are gone through, and their names gathered.
-/
namespace Go.Proofs.YtfljbnhhkdaobaaGreat
open Go Go.RowKit Go.Proofs.Bw
set_option linter.unusedVariables false
set_option linter.unusedSimpArgs false
def Gath (lo g : Nat) (A : Option Addr) (c : Nat) (st : List (List UInt8)) (w : World) : Prop := Box w g [.slice A st.length c] ∧ OwnR w lo 9 1 A c (zR st)
theorem Gath.ext {lo g c : Nat} {A : Option Addr} {st : List (List UInt8)} {w w' : World} (h : Gath lo g A c st w) (hx : Ext w w') : Gath lo g A c st w' := ⟨h.1.ext hx, h.2.ext hx⟩
def Gone (lo g : Nat) (A : Option Addr) (st : List (List UInt8)) (w w' : World) : Prop := ∃ A' c', Gath lo g A' c' st w' ∧ Bw.Mod (gOf g A) w w' ∧ ∀ k, ownOf A' k → ownOf A k ∨ w.heap.size ≤ k
theorem gOf_mods {g : Nat} {A A0 : Option Addr} {w0 w w' : World} (h : Bw.Mod (gOf g A0) w0 w) (hf : ∀ k, ownOf A k → ownOf A0 k ∨ w0.heap.size ≤ k) (h2 : Bw.Mod (gOf g A) w w') : Bw.Mod (gOf g A0) w0 w' :=
  h.trans' h2 fun k hk hs => by
    rcases hs with rfl | hs
    · exact .inl rfl
    · rcases hf k hs with h1 | h1
      · exact .inr h1
      · omega
theorem depth_mem (ts : List T) (k n : Int) (s : ByteArray) (ls : List L) (i : Nat) (h : i < ts.length) : depth ts[i] + 1 ≤ depth (T.mk k n s ls ts) := by
  have h1 := depths_take ts i h
  have h2 := depths_take_le ts (i + 1)
  simp only [depth]; omega
theorem size_mem (ts : List T) (k n : Int) (s : ByteArray) (ls : List L) (i : Nat) (h : i < ts.length) : sizes (ts.take i) + size ts[i] + 1 ≤ size (T.mk k n s ls ts) := by
  have h1 := sizes_take ts i h
  have h2 := sizes_take_le ts (i + 1)
  simp only [size]; omega
theorem namess_len (ts : List T) : (namess ts).length ≤ sizes ts := by
  induction ts with
  | nil => simp [namess, sizes]
  | cons t r ih => have := names_len t; simp only [namess, sizes, List.length_append]; omega
theorem nms_len (ts : List T) (k n : Int) (s : ByteArray) (ls : List L) (i : Nat) (h : i < ts.length) : (nm1 s ++ namess (ts.take i)).length + size ts[i] ≤ size (T.mk k n s ls ts) := by
  have h1 := size_mem ts k n s ls i h
  have h2 := namess_len (ts.take i)
  have h3 := nm1_len s
  rw [List.length_append]; omega
theorem each_names {lo : Nat} (t : T) : ∀ (cs : List Value) (around : Int) (g : Nat) (A : Option Addr) (c : Nat) (st : List (List UInt8)) (w0 : World) (R : Nat → Prop) (hv : VT w0 R cs t) (hR : ∀ k, R k → k < lo ∧ k ≠ g) (hg : g < lo) (hlo : lo ≤ w0.heap.size) (hb : 0 ≤ around ∧ around + depth t ≤ 1099511627776) (hsz : st.length + size t ≤ 1000000) (h0 : Gath lo g A c st w0),
    Runs Tryz.prog 126 #[.agg cs.toArray, .int .i64 around, .func (.func 127) #[] #[.pointer (some ⟨g, 0, none⟩)]] w0 fun v w' => v = .bool true ∧ Gone lo g A (st ++ names t) w0 w' := by
  induction t using T.ind with
  | h k n s ls ts ih =>
  intro cs around g A c st w0 R hv hR hg hlo hb hsz h0
  obtain ⟨k', n', s', ls', ts', la, lc, ta, tc, he, rfl, hk, hn, hs, hl, ht, hL, hT⟩ := hv.inv
  injection he with ek en es el et
  subst ek; subst en; subst es; subst el; subst et
  refine Runs.of_vc (ρ := []) cx_ok [0, 1, 2, 3, 6, 7, 8, 13, 15, 16, 17, 18, 30] [.a [.v (.int .u8 k), .v (.int .i64 n), .v (.string s), .v (.slice la ls.length lc), .v (.slice ta ts.length tc)], .v _, .f 127 [] [.v _]] Tryz.func126 rfl rfl rfl (Holds.nil w0) ?_
  intro g1 w1 e1 x1 z1 hh1
  have hsz0 := size_pos (T.mk k n s ls ts)
  have hA : ∀ a, A = some a → lo ≤ a.block ∧ a.block < w0.heap.size := fun a ha => h0.2.block ha
  refine (Names1_runs k n s la ta ls.length lc ts.length tc around g A c st w1 (h0.1.ext x1) (h0.2.ext x1) hg (by omega) (by omega)).mono ?_
  rintro _ w2 ⟨rfl, A2, c2, b2, o2, m2, f2⟩
  have hh2 := hh1.mod m2 (fun i hi => by
    rintro (hk | ⟨a, ha, hk⟩)
    · match i, hi with
      | 0, _ => have e : g1 = g := hk; omega
    · have := hA a ha
      match i, hi with
      | 0, _ => have e : g1 = a.block := hk; omega)
  refine Lands.v hh2 ?_
  refine Or.inl (And.intro (fun h => by simp at h) (fun _ => ?_))
  have hA2 : ∀ k, ownOf A2 k → (ownOf A k ∨ w0.heap.size ≤ k) ∧ k ≠ g1 := fun k hk => by
    rcases f2 k hk with ⟨a, ha, h1⟩ | h1
    · have := hA a ha
      exact ⟨.inl ⟨a, ha, h1⟩, by omega⟩
    · exact ⟨.inr (by omega), by omega⟩
  have mm2 : Bw.Mod (gOf g A) w0 w2 := (Mod.mono x1 fun k hk => hk.elim).trans m2
  have hRg : ∀ k, R k → ¬ gOf g A k := fun k hk h => by
    have h1 := hR k hk
    rcases h with h | ⟨a, ha, h⟩
    · omega
    · have := hA a ha; omega
  refine vLoop_mk (σ := Nat × Option Addr × Nat) (fun q => [(1, .v (.int .i64 around)), (2, .f 127 [] [.v (.pointer (some ⟨g, 0, none⟩))]), (3, .p 0 0), (15, .v (.slice ta ts.length tc)), (16, .v (.int .i64 ts.length)), (17, .v (.int .i64 q.1))])
    (fun _ => [(0, [.v (.int .u8 k), .v (.int .i64 n), .v (.string s), .v (.slice la ls.length lc), .v (.slice ta ts.length tc)])])
    (fun q w' => q.1 ≤ ts.length ∧ Gath lo g q.2.1 q.2.2 (st ++ nm1 s ++ namess (ts.take q.1)) w' ∧ Bw.Mod (gOf g A) w0 w' ∧ ∀ k, ownOf q.2.1 k → (ownOf A k ∨ w0.heap.size ≤ k) ∧ k ≠ g1) (fun q => ts.length - q.1) (0, A2, c2) (fun _ => ⟨rfl, rfl⟩)
    ⟨⟨rfl, rfl, rfl, rfl, rfl, rfl, trivial⟩, ⟨rfl, trivial⟩, Nat.zero_le _, ⟨by simpa [namess] using b2, by simpa [namess] using o2⟩, mm2, hA2⟩ ?_
  rintro ⟨i, A3, c3⟩ w3 hh3 ⟨hi, g3, mm3, hA3⟩
  simp only at hi g3 hA3
  refine Or.inl (And.intro (fun h2 => ?_) (fun h2 => ?_))
  · have hlt := of_decide_eq_true h2
    simp only at hlt
    have hil : i < ts.length := by omega
    obtain ⟨a1, cx, ha1, hR1, hrow, hvx⟩ := (hT.mod mm3 hRg).at hil
    obtain ⟨k', n', s', ls', ts', la', lc', ta', tc', ex, rfl, -⟩ := hvx.inv
    refine OpT.indexAddr Tryz.underlying31 Tryz.sizeOf33 rfl rfl ha1 (by omega) ?_
    refine Lands.v hh3 ?_
    refine OpT.loadA (cs := [.int .u8 k', .int .i64 n', .string s', .slice la' ls'.length lc', .slice ta' ts'.length tc']) Tryz.isAgg33 Tryz.sizeOf33 rfl hrow ?_
    refine Lands.v hh3 ?_
    intro g8 w4 e4 x4 z4 hh4
    intro w5 m5 z5 hh5
    replace m5 : Upd g8 w4 w5 := m5
    have y5 : Ext w3 w5 := x4.upd m5 (by omega)
    refine vDrw_mk [4, 7] (.one 0 (.one 1 (.one 2 (.one 3 (.one 6 (.one 4 (.one 5 (.one 7 (.one 8 .nil))))))))) rfl fun w6 x6 hh6 => ?_
    have y6 := y5.trans x6
    have mm6 : Bw.Mod (gOf g A) w0 w6 := mm3.trans (Mod.mono y6 fun k hk => hk.elim)
    have hbi := binds_le k i
    refine vcS (binds_runs k n s ls ts i _ w6 R (hv.mod mm6 hRg)) hh6 fun w7 x7 hh7 => ?_
    refine And.intro x7 ?_
    refine vsd (by simp only [inKind]; omega) ?_
    have g7 := g3.ext (y6.trans x7)
    have mm7 := mm6.trans (Mod.mono x7 fun k hk => hk.elim)
    have s7 := mm7.size
    have hds := depth_mem ts k n s ls i hil
    have hss := size_mem ts k n s ls i hil
    have hnl := nms_len ts k n s ls i hil
    refine (ih ts[i] (List.getElem_mem hil) _ (around + binds k i) g A3 c3 _ w7 R (hvx.ext (y6.trans x7)) hR hg (by omega) (by omega) (by rw [List.append_assoc, List.length_append]; omega) g7).mono ?_
    rintro _ w8 ⟨rfl, A4, c4, g4, m8, f8⟩
    have hh8 := hh7.mod m8 (fun i hi => by
      rintro (hk | ⟨a, ha, hk⟩)
      · match i, hi with
        | 0, _ => have e : g1 = g := hk; omega
        | 1, _ => have e : g8 = g := hk; have := mm3.size; omega
      · have h9 := hA3 _ ⟨a, ha, hk⟩
        have h10 := (g3.2.block ha).2
        match i, hi with
        | 0, _ => exact h9.2 rfl
        | 1, _ => have e : g8 = a.block := hk; omega)
    refine Lands.v hh8 ?_
    refine Or.inl (And.intro (fun h => by simp at h) (fun _ => ?_))
    refine vsd (by simp only [inKind]; have := ht.1; have := ht.2; omega) ?_
    have hg1 : g1 < w3.heap.size := hh3.lt 0 Nat.zero_lt_one
    have e9 : st ++ nm1 s ++ namess (ts.take i) ++ names ts[i] = st ++ nm1 s ++ namess (ts.take (i + 1)) := by rw [namess_take ts i hil, ← List.append_assoc]
    rw [e9] at g4
    exact Exists.intro (i + 1, A4, c4) ⟨by simp only; omega, ⟨rfl, rfl, rfl, rfl, rfl, rfl, trivial⟩, ⟨rfl, trivial⟩, hil, g4, gOf_mods mm7 (fun k hk => (hA3 k hk).1) m8, fun k hk => by
      rcases f8 k hk with h1 | h1
      · exact hA3 k h1
      · have := (y6.trans x7).size
        exact ⟨.inr (by omega), by omega⟩⟩
  · have hge := of_decide_eq_false h2
    simp only at hge
    have hil : i = ts.length := by omega
    subst hil
    rw [List.take_length, List.append_assoc] at g3
    exact ⟨rfl, A3, c3, g3, mm3, fun k hk => (hA3 k hk).1⟩
end Go.Proofs.YtfljbnhhkdaobaaGreat

/-
  The names, sorted, each once; what they are.
-/
namespace Go.Proofs.YtfljbnhhkdaobaaGreat
open Go Go.RowKit Go.Proofs.Bw
set_option linter.unusedVariables false
set_option linter.unusedSimpArgs false
def srt (l : List (List UInt8)) : List (List UInt8) := l.mergeSort fun x y => decide (x ≤ y)
theorem srt_len (l : List (List UInt8)) : (srt l).length = l.length := List.length_mergeSort l
theorem zR_flat (l : List (List UInt8)) : (zR l).flatten = l.map encStr := by
  induction l with
  | nil => rfl
  | cons a r ih => simp only [zR, List.map_cons, List.flatten_cons] at ih ⊢; rw [ih]; rfl
theorem zR_one (l : List (List UInt8)) : ∀ r ∈ zR l, r.length = 1 := fun r hr => by
  simp only [zR, List.mem_map] at hr
  obtain ⟨_, _, rfl⟩ := hr; rfl
theorem own_strs {w : World} {lo el c : Nat} {A : Option Addr} {l : List (List UInt8)} (h : OwnR w lo el 1 A c (zR l)) : w.ownsRow lo el 1 (.slice A l.length c) l.length (l.map encStr) := by
  have := h.2
  rwa [zR_flat, zR_length] at this
theorem own_ofStrs {w : World} {lo el c : Nat} {A : Option Addr} {l : List (List UInt8)} (h : w.ownsRow lo el 1 (.slice A l.length c) l.length (l.map encStr)) : OwnR w lo el 1 A c (zR l) :=
  ⟨zR_one l, by rw [zR_flat, zR_length]; exact h⟩
theorem Runs.of_calls {P : Program} {f : FuncId} {args : Array Value} {w : World} {K : Ending → World → Prop} {K' : Value → World → Prop} (h : Calls P f args w K) (hk : ∀ e w', K e w' → ∃ v, e = .returned v ∧ K' v w') : Runs P f args w K' := Calls.mono h hk
theorem Sort_runs {lo : Nat} (A : Option Addr) (c : Nat) (st : List (List UInt8)) (w : World) (ho : OwnR w lo 9 1 A c (zR st)) (hsz : st.length < 1000001) :
    Runs Tryz.prog 85 #[.slice A st.length c] w fun v w' => v = .tuple #[] ∧ OwnR w' lo 9 1 A c (zR (srt st)) ∧ Bw.Mod (ownOf A) w w' := by
  have h := own_strs ho
  rcases h.2 with ⟨h1, h2⟩ | ⟨g, cap, cur, hv, hb, hg, hn, hm, hs, htk⟩
  · have h0 : st = [] := List.eq_nil_of_length_eq_zero h2
    subst h0
    refine Runs.of_calls (Tryz.slices_Sort_string_none A c w) ?_
    rintro e w' ⟨rfl, rfl⟩
    exact ⟨_, rfl, rfl, by simpa [srt] using ho, Mod.refl _ _⟩
  · injection hv with e1 e2 e3
    subst e1; subst e3
    have hgl : g < w.heap.size := (Array.getElem?_eq_some_iff.1 hg).1
    rw [Nat.mul_one] at htk
    refine Runs.of_calls (Tryz.slices_Sort_string g 0 c st w (Go.holds_of_block hg htk) hgl (by omega)) ?_
    rintro e w' ⟨rfl, n, os, rfl⟩
    have hs2 := Go.ownsRow_sorted (n := n) (os := os) (ts := srt st) (ss := st) (srt_len st) hb hg hn hm hs
    rw [← srt_len st] at hs2
    exact ⟨_, rfl, rfl, own_ofStrs hs2, Mod.of_own (v := .slice (some ⟨g, 0, none⟩) 0 0) rfl (Go.grownBy_sorted _)⟩
theorem compact_len (l : List (List UInt8)) : (Lib.compact l).length ≤ l.length := Lib.compact_length_le l
theorem Compact_runs {lo : Nat} (A : Option Addr) (c : Nat) (st : List (List UInt8)) (w : World) (ho : OwnR w lo 9 1 A c (zR st)) (hsz : st.length < 1000001) :
    Runs Tryz.prog 128 #[.slice A st.length c] w fun v w' => v = .slice A (Lib.compact st).length c ∧ OwnR w' lo 9 1 A c (zR (Lib.compact st)) ∧ Bw.Mod (ownOf A) w w' := by
  have h := own_strs ho
  rcases h.2 with ⟨h1, h2⟩ | ⟨g, cap, cur, hv, hb, hg, hn, hm, hs, htk⟩
  · have h0 : st = [] := List.eq_nil_of_length_eq_zero h2
    subst h0
    refine Runs.of_calls (Tryz.slices_Compact_string_empty A c w) ?_
    rintro e w' ⟨rfl, rfl⟩
    exact ⟨_, rfl, rfl, ho, Mod.refl _ _⟩
  · injection hv with e1 e2 e3
    subst e1; subst e3
    rw [Nat.mul_one] at htk
    refine Runs.of_calls (Tryz.slices_Compact_string g 0 c st w (Go.holds_of_block hg htk) (by omega) hn) ?_
    rintro e w' ⟨rfl, q, rfl⟩
    have hc := Lib.ownsRow_putRow (q := q) (k := (Lib.compact st).length) (ys := Lib.compact st ++ List.replicate (st.length - (Lib.compact st).length) []) h (by have := compact_len st; simp; omega) (compact_len st)
    rw [List.take_left] at hc
    exact ⟨_, rfl, rfl, own_ofStrs hc, Mod.of_own (v := .slice (some ⟨g, 0, none⟩) 0 0) rfl (by
      have hgr := Go.grownBy_sorted (w := w) (g := g) (n := q) (os := #[]) (Lib.compact st ++ List.replicate (st.length - (Lib.compact st).length) []).toArray
      rwa [Go.Sort.grow_empty] at hgr)⟩
end Go.Proofs.YtfljbnhhkdaobaaGreat

/-
  The names of a term.
-/
namespace Go.Proofs.YtfljbnhhkdaobaaGreat
open Go Go.RowKit Go.Proofs.Bw
set_option linter.unusedVariables false
set_option linter.unusedSimpArgs false
def nmsT (t : T) : List (List UInt8) := if mayT t = true then Lib.compact (srt (names t)) else []
theorem Names_runs (t : T) (cs : List Value) (w : World) (R : Nat → Prop) (hv : VT w R cs t) :
    Runs Tryz.prog 99 #[.agg cs.toArray] w fun v w' => Ext w w' ∧ ∃ A c, v = .slice A (nmsT t).length c ∧ OwnR w' w.heap.size 9 1 A c (zR (nmsT t)) := by
  have hvs := hv.small
  obtain ⟨k, n, s, ls, ts, la, lc, ta, tc, et, rfl, -⟩ := hv.inv
  refine Runs.of_vc (ρ := []) cx_ok [0, 1, 2, 5] [.a [.v (.int .u8 k), .v (.int .i64 n), .v (.string s), .v (.slice la ls.length lc), .v (.slice ta ts.length tc)]] Tryz.func99 rfl rfl rfl (Holds.nil w) ?_
  intro g1 w1 e1 x1 z1 hh1
  intro g2 w2 e2 x2 z2 hh2
  refine vcS (may_runs t _ w2 R (hv.ext (x1.trans x2))) hh2 fun w3 x3 hh3 => ?_
  have y3 := (x1.trans x2).trans x3
  have s3 := x3.size
  refine Or.inl (And.intro (fun h => ?_) (fun h => ?_))
  · have hm : mayT t = false := by simpa using h
    have en : nmsT t = [] := by unfold nmsT; rw [hm]; rfl
    intro w4 m4 z4 hh4
    replace m4 : Upd g2 w3 w4 := m4
    rw [en]
    exact ⟨y3.upd m4 (by omega), none, 0, rfl, OwnR.nil _ _ _ _⟩
  · have hm : mayT t = true := by simpa using h
    have en : nmsT t = Lib.compact (srt (names t)) := by unfold nmsT; rw [if_pos hm]
    have hms := may_size hm
    have hmd := may_depth hm
    have hnl := names_len t
    refine (each_names (lo := w2.heap.size) t _ 0 g2 none 0 [] w3 _ (hvs.ext y3) (fun k hk => by have := hk.2; omega) (by omega) s3 (by omega) (by simp only [List.length_nil]; omega) ⟨hh3.box 1 _ rfl, OwnR.nil _ _ _ _⟩).mono ?_
    rintro _ w4 ⟨rfl, A, c, g4, m4, f4⟩
    rw [List.nil_append] at g4
    have b1 : Box w4 g1 [.int .u8 k, .int .i64 n, .string s, .slice la ls.length lc, .slice ta ts.length tc] := (hh3.box 0 _ rfl).mod m4 (by
      rintro (h1 | ⟨a, ha, _⟩)
      · have h2 : g1 = g2 := h1; omega
      · cases ha)
    refine Lands.to (H' := [(0, [.v (.int .u8 k), .v (.int .i64 n), .v (.string s), .v (.slice la ls.length lc), .v (.slice ta ts.length tc)]), (1, [.v (.slice A (names t).length c)])]) (s := .v _) rfl rfl hh3 m4.size ⟨b1, g4.1, trivial⟩ rfl fun hh4 => ?_
    have hA : ∀ k, ownOf A k → w3.heap.size ≤ k := fun k hk => by
      rcases f4 k hk with ⟨a, ha, _⟩ | h1
      · cases ha
      · exact h1
    have y4 : Ext w w4 := y3.trans' m4 fun i hi hS => by
      rcases hS with h1 | ⟨a, ha, _⟩
      · omega
      · cases ha
    refine (Sort_runs A c (names t) w4 g4.2 (by omega)).mono ?_
    rintro _ w5 ⟨rfl, o5, m5⟩
    have keep : ∀ {w5 w6 : World} {H : Heap}, Holds [g1, g2] H w5 → Bw.Mod (ownOf A) w5 w6 → Holds [g1, g2] H w6 := fun hh m => hh.mod m (fun i hi h1 => by
      have h2 := hA _ h1
      match i, hi with
      | 0, _ => have h3 : w3.heap.size ≤ g1 := h2; omega
      | 1, _ => have h3 : w3.heap.size ≤ g2 := h2; omega)
    have ownx : ∀ {w5 w6 : World}, Ext w w5 → Bw.Mod (ownOf A) w5 w6 → Ext w w6 := fun hx m => hx.trans' m fun i hi h1 => by
      have h2 := hA _ h1; have := y3.size; omega
    have hh5 := keep hh4 m5
    have y5 := ownx y4 m5
    refine Lands.v hh5 ?_
    have hC := Compact_runs A c (srt (names t)) w5 o5 (by rw [srt_len]; omega)
    rw [srt_len] at hC
    refine hC.mono ?_
    rintro _ w6 ⟨rfl, o6, m6⟩
    have hh6 := keep hh5 m6
    have y6 := ownx y5 m6
    refine Lands.v hh6 ?_
    intro w7 m7 z7 hh7
    replace m7 : Upd g2 w6 w7 := m7
    rw [en]
    exact ⟨y6.upd m7 (by have := x1.size; omega), A, c, rfl, (o6.upd m7 (by omega)).lower (by have := (x1.trans x2).size; omega)⟩
end Go.Proofs.YtfljbnhhkdaobaaGreat

/-
  Plain laws of names: sorted, each once.
-/
namespace Go.Proofs.YtfljbnhhkdaobaaGreat
open Go Go.RowKit Go.Proofs.Bw
set_option linter.unusedVariables false
set_option linter.unusedSimpArgs false
theorem bl_trans {x y z : List UInt8} (h1 : x ≤ y) (h2 : y ≤ z) : x ≤ z := List.le_trans h1 h2
theorem bl_lt_of_ne {x y : List UInt8} (h1 : x ≤ y) (h2 : x ≠ y) : x < y := by
  by_cases h : x < y
  · exact h
  · exact absurd (List.le_antisymm h1 (List.not_lt.1 h)) h2
theorem srt_sorted (l : List (List UInt8)) : (srt l).Pairwise (· ≤ ·) := by
  have := List.pairwise_mergeSort (le := fun x y : List UInt8 => decide (x ≤ y)) (fun a b c h1 h2 => by simp only [decide_eq_true_eq] at *; exact bl_trans h1 h2) (fun a b => by simp only [Bool.or_eq_true, decide_eq_true_eq]; exact List.le_total a b) l
  exact this.imp fun h => of_decide_eq_true h
theorem srt_mem (l : List (List UInt8)) (x : List UInt8) : x ∈ srt l ↔ x ∈ l := (List.mergeSort_perm l _).mem_iff
theorem get_bang (zs : List (List UInt8)) (j : Nat) (h : j < zs.length) : zs.toArray[j]! = zs[j] := by
  rw [getElem!_pos _ j (by simpa using h)]; simp
theorem compact_law (zs : List (List UInt8)) (hs : zs.Pairwise (· ≤ ·)) : ∀ m, m ≤ zs.length → (Lib.compactUpTo zs.toArray m).Pairwise (· < ·) ∧ ∀ x, x ∈ Lib.compactUpTo zs.toArray m ↔ x ∈ zs.take m := by
  intro m
  induction m with
  | zero => intro _; simp [Lib.compactUpTo]
  | succ m ih =>
    intro hm
    obtain ⟨h1, h2⟩ := ih (by omega)
    have hlt : m < zs.length := by omega
    rw [Lib.compactUpTo_succ, take_snoc zs m hlt, get_bang zs m hlt]
    cases hk : Lib.keeps zs.toArray m with
    | true =>
      simp only [if_true]
      refine ⟨List.pairwise_append.2 ⟨h1, List.pairwise_singleton _ _, fun a ha b hb => ?_⟩, fun x => by rw [List.mem_append, List.mem_append, h2]⟩
      rw [List.mem_singleton] at hb
      subst hb
      rw [h2] at ha
      obtain ⟨j, hj, rfl⟩ := List.mem_iff_getElem.1 ha
      rw [List.length_take] at hj
      rw [List.getElem_take]
      have hle := List.pairwise_iff_getElem.1 hs
      have e1 : zs[j] ≤ zs[m - 1] := by
        by_cases h3 : j = m - 1
        · subst h3; exact List.le_refl _
        · exact hle j (m - 1) (by omega) (by omega) (by omega)
      have e2 : zs[m - 1] ≤ zs[m] := hle (m - 1) m (by omega) (by omega) (by omega)
      have e3 : zs[m - 1] ≠ zs[m] := by
        intro e
        have : Lib.keeps zs.toArray m = false := Lib.keeps_neg (by omega) (by rw [get_bang zs m hlt, get_bang zs (m - 1) (by omega), e])
        rw [this] at hk; cases hk
      by_cases e4 : zs[j] < zs[m]
      · exact e4
      · exfalso
        have e5 := List.not_lt.1 e4
        exact e3 (List.le_antisymm e2 (bl_trans e5 e1))
    | false =>
      simp only [Bool.false_eq_true, if_false, List.append_nil]
      refine ⟨h1, fun x => ?_⟩
      rw [h2, List.mem_append, List.mem_singleton]
      constructor
      · exact .inl
      · rintro (h | rfl)
        · exact h
        · have hm0 : 0 < m := by
            rcases Nat.eq_zero_or_pos m with h0 | h0
            · subst h0; simp [Lib.keeps] at hk
            · exact h0
          have e : zs[m] = zs[m - 1] := by
            by_cases hne : zs[m] = zs[m - 1]
            · exact hne
            · have : Lib.keeps zs.toArray m = true := Lib.keeps_pos (by rw [get_bang zs m hlt, get_bang zs (m - 1) (by omega)]; exact hne)
              rw [this] at hk; cases hk
          rw [e]
          exact List.mem_iff_getElem.2 ⟨m - 1, by rw [List.length_take]; omega, by rw [List.getElem_take]⟩
def cs (l : List (List UInt8)) : List (List UInt8) := Lib.compact (srt l)
theorem cs_law (l : List (List UInt8)) : (cs l).Pairwise (· < ·) ∧ ∀ x, x ∈ cs l ↔ x ∈ l := by
  have h := compact_law (srt l) (srt_sorted l) (srt l).length (Nat.le_refl _)
  rw [List.take_length] at h
  exact ⟨h.1, fun x => by rw [← srt_mem l x]; exact h.2 x⟩
theorem sorted_ext : ∀ (l l' : List (List UInt8)), l.Pairwise (· < ·) → l'.Pairwise (· < ·) → (∀ x, x ∈ l ↔ x ∈ l') → l = l'
  | [], [], _, _, _ => rfl
  | [], b :: r, _, _, h => by have := (h b).2 List.mem_cons_self; cases this
  | a :: r, [], _, _, h => by have := (h a).1 List.mem_cons_self; cases this
  | a :: r, b :: r', h1, h2, h => by
    obtain ⟨p1, q1⟩ := List.pairwise_cons.1 h1
    obtain ⟨p2, q2⟩ := List.pairwise_cons.1 h2
    have e : a = b := by
      rcases List.mem_cons.1 ((h a).1 List.mem_cons_self) with e | ha
      · exact e
      · rcases List.mem_cons.1 ((h b).2 List.mem_cons_self) with e | hb
        · exact e.symm
        · exact absurd (List.lt_trans (p1 b hb) (p2 a ha)) (List.lt_irrefl _)
    subst e
    congr 1
    refine sorted_ext r r' q1 q2 fun x => ⟨fun hx => ?_, fun hx => ?_⟩
    · rcases List.mem_cons.1 ((h x).1 (List.mem_cons_of_mem _ hx)) with e | hx'
      · subst e; exact absurd (p1 x hx) (List.lt_irrefl _)
      · exact hx'
    · rcases List.mem_cons.1 ((h x).2 (List.mem_cons_of_mem _ hx)) with e | hx'
      · subst e; exact absurd (p2 x hx) (List.lt_irrefl _)
      · exact hx'
theorem names_name (t : T) (h : nodes t = true) : ∀ x ∈ names t, nameB ⟨x.toArray⟩ = true := by
  revert h
  refine T.rec (motive_1 := fun t => nodes t = true → ∀ x ∈ names t, nameB ⟨x.toArray⟩ = true) (motive_2 := fun ts => nodess ts = true → ∀ x ∈ namess ts, nameB ⟨x.toArray⟩ = true) ?_ ?_ ?_ t
  · intro k n s ls ts ih h x hx
    simp only [nodes, Bool.and_eq_true] at h
    simp only [names, List.mem_append] at hx
    rcases hx with hx | hx
    · unfold nm1 at hx
      split at hx
      · cases hx
      · rename_i h0
        rw [List.mem_singleton] at hx
        subst hx
        have := (nodeB_iff k n s ls ts).1 h.1
        have h4 := this.2.2.2.1
        split at h4
        · simpa using h4
        · exact absurd h4 h0
    · exact ih h.2 x hx
  · intro _ x hx; simp [namess] at hx
  · intro t r h1 h2 h x hx
    simp only [nodess, Bool.and_eq_true] at h
    simp only [namess, List.mem_append] at hx
    rcases hx with hx | hx
    · exact h1 h.1 x hx
    · exact h2 h.2 x hx
end Go.Proofs.YtfljbnhhkdaobaaGreat

/-
  Functions with a range over a function: what is before it, its rounds, what is behind it.
-/
namespace Go.Proofs.Bw
open Go Go.RowKit
set_option linter.unusedSectionVars false
set_option linter.unusedSimpArgs false
set_option linter.unusedVariables false
def NC (B : Nat) (W : World) : Nat → Prop := fun k => B ≤ k ∧ ∃ o : Obj, W.heap[k]? = some o ∧ o.isCells = false
def asgA : Code → Act → Act
  | .seq x y, a => asgA y (asgA x a)
  | .region _ ops _, a => match ops.toList with
    | [⟨some d, .assign (.tmp s), _, _, _, none⟩] => a.put (some d) (a.eval (.tmp s))
    | _ => a
  | _, a => a
def asgOk : Code → Bool
  | .seq x y => asgOk x && asgOk y
  | .region _ ops false => match ops.toList with
    | [⟨some _, .assign (.tmp _), _, _, _, none⟩] => true
    | _ => false
  | .skip => true
  | _ => false
def asgE (n : Nat) : Code → SEnv → Option SEnv
  | .seq x y, e => match asgE n x e with
    | some e' => asgE n y e'
    | none => none
  | .region _ ops _, e => match ops.toList with
    | [⟨some d, .assign (.tmp s), _, _, _, none⟩] => match lookS e s with
      | some v => bif Nat.blt d n then some ((d, v) :: e) else none
      | none => none
    | _ => none
  | .skip, e => some e
  | _, _ => none
def parE (n : Nat) : List Nat → List Value → SEnv → Option SEnv
  | [], [], e => some e
  | p :: ps, v :: vs, e => bif Nat.blt p n then parE n ps vs ((p, .v v) :: e) else none
  | _, _, _ => none
section
variable {r0 : Option Nat} {N : Nat} {ρ : List Nat} {n : Nat} {e : SEnv} {H : Heap} {w : World} {a : Act} {P : Program}
theorem asg_wp : ∀ (c : Code) (K : Act → World → Prop) (Q : Exit → Act → World → Prop) (a : Act), asgOk c = true → K (asgA c a) w → c.wpIn (Wf r0) N P (Exit.then K Q) a w := by
  intro c
  induction c with
  | seq x y ihx ihy =>
    intro K Q a hc hK
    simp only [asgOk, Bool.and_eq_true] at hc
    refine wpIn_seq (wpIn_mono (ihx (fun a' w' => a' = asgA x a ∧ w' = w) (fun _ _ _ => False) a hc.1 ⟨rfl, rfl⟩) ?_)
    intro ex a' w' h
    cases ex with
    | normal => obtain ⟨rfl, rfl⟩ := h; exact ihy _ _ _ hc.2 hK
    | _ => exact h.elim
  | region id ops d =>
    intro K Q a hc hK
    cases d with
    | true => simp [asgOk] at hc
    | false =>
      unfold asgOk at hc
      split at hc
      · rename_i d s t pos af hops
        refine wpIn_region_list ?_
        unfold asgA at hK
        rw [hops] at hK ⊢
        simp only [wpListIn]
        rw [if_pos (by simp [Region.wanted])]
        refine Runs1.wpIn (K := fun v w' => v = a.eval (.tmp s) ∧ w' = w) (Runs1.of_value (v := a.eval (.tmp s)) (by simp [execOp]) ⟨rfl, rfl⟩) ?_
        rintro _ _ ⟨rfl, rfl⟩
        exact hK
      · cases hc
  | skip => intro K Q a hc hK; exact wpIn_skip hK
  | _ => intro K Q a hc hK; simp [asgOk] at hc
theorem AgS.cons {ds : List Deferred} {d : Nat} {s : SV} (h : AgS ds ρ n e a) (hd : d < n) (hs : wf ρ.length s = true) : AgS ds ρ n ((d, s) :: e) (a.put (some d) (conc ρ s)) := by
  refine ⟨h.1, by simp [Act.put, h.2.1], fun t s' ht => ?_⟩
  have hsz := h.2.1
  simp only [lookS] at ht
  by_cases hdt : d = t
  · subst hdt
    rw [beq_self] at ht; cases ht
    exact ⟨hs, by simp [Act.put, hsz, hd]⟩
  · rw [beq_ne hdt] at ht
    obtain ⟨h1, h2⟩ := h.2.2 t s' ht
    refine ⟨h1, ?_⟩
    simp only [Act.put]
    rw [Array.getElem?_setIfInBounds_ne hdt]; exact h2
theorem asgE_sound {ds : List Deferred} : ∀ (c : Code) (e e' : SEnv) (a : Act), AgS ds ρ n e a → asgE n c e = some e' → AgS ds ρ n e' (asgA c a) := by
  intro c
  induction c with
  | seq x y ihx ihy =>
    intro e e' a ha he
    simp only [asgE] at he
    cases hx : asgE n x e with
    | none => rw [hx] at he; cases he
    | some e1 => rw [hx] at he; exact ihy e1 e' _ (ihx e e1 a ha hx) he
  | region id ops d =>
    intro e e' a ha he
    unfold asgE at he
    split at he
    · rename_i d s t pos af hops
      split at he
      · rename_i v hv
        cases hd : Nat.blt d n with
        | false => rw [hd] at he; cases he
        | true =>
          rw [hd] at he
          simp only [cond_true, Option.some.injEq] at he
          subst he
          unfold asgA
          rw [hops]
          show AgS ds ρ n ((d, v) :: e) (a.put (some d) (a.eval (.tmp s)))
          obtain ⟨h1, h2⟩ := ha.2.2 s v hv
          have h3 : a.eval (.tmp s) = conc ρ v := by simp [Act.eval, Array.getD_eq_getD_getElem?, h2]
          rw [h3]
          exact ha.cons (by simpa using hd) h1
      · cases he
    · cases he
  | skip => intro e e' a ha he; simp only [asgE, Option.some.injEq] at he; subst he; exact ha
  | _ => intro e e' a ha he; simp [asgE] at he
theorem parE_sound {ds : List Deferred} : ∀ (ps : List Nat) (vs : List Value) (e e' : SEnv) (a : Act), AgS ds ρ n e a → parE n ps vs e = some e' →
    AgS ds ρ n e' { tmps := (ps.zip vs).foldl (fun t (p, v) => t.setIfInBounds p v) a.tmps, defers := a.defers }
  | [], [], e, e', a, ha, he => by simp only [parE, Option.some.injEq] at he; subst he; exact ha
  | p :: ps, v :: vs, e, e', a, ha, he => by
    simp only [parE] at he
    cases hp : Nat.blt p n with
    | false => rw [hp] at he; cases he
    | true =>
      rw [hp] at he
      have h1 := ha.cons (s := .v v) (show p < n by simpa using hp) rfl
      have h2 := parE_sound ps vs _ e' _ h1 he
      exact h2
  | [], _ :: _, e, e', a, ha, he => by simp [parE] at he
  | _ :: _, [], e, e', a, ha, he => by simp [parE] at he
def vRetM (C : Cx) (res : List ResultVar) (K : Value → World → Prop) (D : Nat) : KC := fun e ρ H w => w.heap[D]? = some (.deferred (some [])) ∧ ∀ w', Mod (fun k => k = D) w w' → Holds ρ H w' → vRet C res K e ρ H w'
def vRest (C : Cx) (n : Nat) (live : List Nat) (kr : KC) : List Code → KC → KC
  | [], k => k
  | c :: cs, k => vCode C n live kr c [] (vRest C n live kr cs k)
def KpOk (B : Nat) (Kp : World → World → Prop) : Prop := (∀ X Y Z, Kp X Y → Kp Y Z → Kp X Z) ∧ ∀ (W : World) (l : Nat) (o o' : Obj), B ≤ l → W.heap[l]? = some o → o.isCells = false → o.isWalk = false → Kp W (W.putObj l o')
def vRange (C : Cx) (n : Nat) (live : List Nat) (res : List ResultVar) (K : Value → World → Prop) (g : Operand) (ps : List Nat) (asg body : Code) (cs : List Code) : KC := fun e ρ H w =>
  ∃ (Kp : World → World → Prop), KpOk w.heap.size Kp ∧ ∃ (α : Type) (gf : Nat) (caps : List SV) (encs : α → List Value) (S Sp : List α → Prop) (NN : Nat) (w0 : World) (G Gx : List α → Heap) (F Fx : List α → World → Prop),
    (evR [] e [] g = some (.f gf [] caps) ∧ nmem C.fns gf = true ∧ asgOk asg = true ∧ (∀ x, (encs x).length = ps.length)) ∧
    (SeqStopsK (Wf none) 9 C.P gf ⟨concs ρ caps⟩ (fun x => ⟨encs x⟩) Kp S Sp NN w0 ∧ Below w0.heap.size w0 w) ∧
    (∀ s, hwf ρ.length (G s) = true ∧ hwf ρ.length (Gx s) = true) ∧
    (∀ s W W', (F s W → Mod (NC w.heap.size W) W W' → F s W') ∧ (Fx s W → Mod (NC w.heap.size W) W W' → Fx s W')) ∧
    (hsub (G []) H ∧ F [] w) ∧
    (∀ pre x W, Holds ρ (G pre) W → F pre W → pre.length < NN → match parE n ps (encs x) e with
      | some e0 => match asgE n asg e0 with
        | some e1 => fE e1 fun e1 => fH (G pre) fun H1 => vCode C n live (fun _ _ H' W' => hsub (Gx (pre ++ [x])) H' ∧ Fx (pre ++ [x]) W' ∧ KeepsFrom w.heap.size W W') body [] (fun _ _ H' W' => hsub (G (pre ++ [x])) H' ∧ F (pre ++ [x]) W' ∧ KeepsFrom w.heap.size W W' ∧ Kp W W') e1 ρ H1 W
        | none => False
      | none => False) ∧
    (∀ D xs W, w.heap.size ≤ D → S xs → Holds ρ (G xs) W → F xs W → W.heap[D]? = some (.deferred (some [])) → fH (G xs) fun H1 => vRest C n live (vRetM C res K D) cs (vRetM C res K D) e ρ H1 W) ∧
    (∀ D pre W, w.heap.size ≤ D → Sp pre → Holds ρ (Gx pre) W → Fx pre W → W.heap[D]? = some (.deferred (some [])) → fH (Gx pre) fun H1 => vRetM C res K D e ρ H1 W)
def vTop (C : Cx) (n : Nat) (live : List Nat) (res : List ResultVar) (K : Value → World → Prop) : Nat → Code → List Code → KC
  | 0, _, _ => fun _ _ _ _ => False
  | q + 1, .seq x y, cs => vTop C n live res K q x (y :: cs)
  | q + 1, .block _ (.rangeFunc g ps asg body), cs => vRange C n live res K g ps.toList asg body cs
  | q + 1, c, [] => vCode C n live (vRet C res K) c [] (vRet C res K)
  | q + 1, c, y :: cs => vCode C n live (vRet C res K) c [] (vTop C n live res K q y cs)
def restWp (F : Fence) (M : Nat) (P : Program) (Q : Exit → Act → World → Prop) : List Code → Act → World → Prop
  | [], a, w => Q .normal a w
  | c :: cs, a, w => c.wpIn F M P (Exit.then (restWp F M P Q cs) Q) a w
theorem Holds.nc {W W' : World} {B : Nat} (h : Holds ρ H W) (hm : Mod (NC B W) W W') : Holds ρ H W' := by
  refine ⟨fun k cs hk => (h.box k cs hk).mod hm fun ⟨_, o, h1, h2⟩ => ?_, h.ne, fun i hi => Nat.lt_of_lt_of_le (h.lt i hi) hm.size, h.ok⟩
  obtain ⟨ty, hb⟩ := h.box k cs hk
  rw [hb] at h1; cases h1; cases h2
theorem restV_sound {C : Cx} {live : List Nat} {ds : List Deferred} (hC : C.Ok) {kr k : KC} {Q : Exit → Act → World → Prop} (hr : Goes ds ρ n kr (Q .ret)) (hk : Goes ds ρ n k (Q .normal)) : ∀ (cs : List Code) (l : List Nat) (e : SEnv) (H : Heap) (w : World) (a : Act),
    AgS ds (ρ ++ l) n e a → Holds (ρ ++ l) H w → vRest C n live kr cs k e (ρ ++ l) H w → restWp (Wf none) N C.P Q cs a w
  | [], l, e, H, w, a, ha, hH, h => hk e l H a w ha hH h
  | c :: cs, l, e, H, w, a, ha, hH, h => by
    refine vCode_sound (r0 := none) hC (drw_sound hC) c [] _ (Exit.then (restWp (Wf none) N C.P Q cs) Q) (ρ ++ l) e H w a ?_ (fun id kc hk => by cases hk) (hr.app l) ha hH h
    intro e' l' H' a' w' h1 h2 h3
    rw [List.append_assoc] at h1 h2 h3
    exact restV_sound hC hr hk cs (l ++ l') e' H' w' a' h1 h2 h3
abbrev mark (D : Nat) : Deferred := { target := .collected D, args := #[] }
theorem putObj_mod (W : World) (l : Nat) (o : Obj) : Mod (fun k => k = l) W (W.putObj l o) :=
  (Mod.of_grown (grownBy_putObj' W l o)).mono fun k hk => by cases hk; rfl
theorem retM_sound {C : Cx} {fn : Func} {K : Value → World → Prop} {D M : Nat} (hC : C.Ok) (ha : AgS [mark D] ρ n e a) (hH : Holds ρ H w) (h : vRetM C fn.results.toList K D e ρ H w) :
    LeavesInM (Wf none) M C.P fn a.tmps (fun en w' => ∃ v, en = .returned v ∧ K v w') a.defers .returning w := by
  obtain ⟨h1, h2⟩ := h
  rw [ha.1]
  refine ⟨by simp, .inl ⟨D, _, rfl, run_takeDeferred h1, ?_⟩⟩
  have hm := putObj_mod w D (.deferred none)
  have hH' : Holds ρ H (w.putObj D (.deferred none)) := hH.nc (B := 0) (hm.mono fun k hk => by subst hk; exact ⟨Nat.zero_le _, _, h1, rfl⟩)
  have hc := h2 _ hm hH'
  have ha' : AgS [] ρ n e { tmps := a.tmps, defers := [] } := ⟨rfl, ha.2⟩
  obtain ⟨v, hr, hK⟩ := vRet_sound hC ha' hH' hc
  exact ⟨v, hr, v, rfl, hK⟩
theorem range_sound {C : Cx} {live : List Nat} {fn : Func} {K : Value → World → Prop} {id : Nat} {g : Operand} {ps : Array Tmp} {asg body : Code} {cs : List Code} (hC : C.Ok) (ha : AgS [] ρ n e a) (hH : Holds ρ H w)
    (h : vRange C n live fn.results.toList K g ps.toList asg body cs e ρ H w) :
    (Code.rangeFunc g ps asg body).wpIn (Wf none) 10 C.P (fun ex => Exit.inBlock id (Exit.then (restWp (Wf none) 10 C.P (bodyPostM (Wf none) 10 C.P fn (fun en w' => ∃ v, en = .returned v ∧ K v w')) cs) (bodyPostM (Wf none) 10 C.P fn (fun en w' => ∃ v, en = .returned v ∧ K v w'))) ex) a w := by
  obtain ⟨Kp, hKp, α, gf, caps, encs, S, Sp, NN, w0, G, Gx, F, Fx, ⟨hg, hf, hasg, hlen⟩, ⟨hseq, hb0⟩, hwf', hst, ⟨hG0, hF0⟩, hbody, hdone, hstop⟩ := h
  have hev : a.eval g = .func (.func gf) #[] ⟨concs ρ caps⟩ := ((ha.start.eval (p := []) rfl) g _ hg).2
  have goesM : ∀ D ex, (ex = Exit.normal ∨ ex = Exit.ret) → Goes [mark D] ρ n (vRetM C fn.results.toList K D) (bodyPostM (Wf none) 10 C.P fn (fun en w' => ∃ v, en = .returned v ∧ K v w') ex) := by
    rintro D ex hex e' l H' a' w' h1 h2 h3
    have := retM_sound (M := 10) hC h1 h2 h3
    rcases hex with rfl | rfl
    · exact this
    · exact this
  have agM : ∀ D, AgS [mark D] ρ n e { a with defers := mark D :: a.defers } := fun D => ⟨by rw [ha.1], ha.2⟩
  refine wpIn_rangeFunc_ownG (F := Wf none) (n := 10) rfl (by omega) hev trivial (hC.fns.get hf) hseq (fun h1 h2 => hKp.1 _ _ _ h1 h2) hKp.2 hb0 (fun x => by simpa using hlen x)
    (fun pre W => Holds ρ (G pre) W ∧ F pre W) (fun c pre W => c = .ret ∧ Holds ρ (Gx pre) W ∧ Fx pre W) ?_ ?_ ⟨hH.sub hG0, hF0⟩
    (fun x => asgA asg { tmps := (ps.zip (⟨encs x⟩ : Array Value)).foldl (fun t (p, v) => t.setIfInBounds p v) a.tmps, defers := [] }) ?_ ?_ ?_ ?_
  · rintro s W W' row ⟨h1, h2⟩ hgr hrow
    have hm : Mod (NC w.heap.size W) W W' := (Mod.of_grown hgr).mono fun k hk => hrow k hk.symm
    exact ⟨h1.nc hm, (hst s W W').1 h2 hm⟩
  · rintro c s W W' row ⟨h0, h1, h2⟩ hgr hrow
    have hm : Mod (NC w.heap.size W) W W' := (Mod.of_grown hgr).mono fun k hk => hrow k hk.symm
    exact ⟨h0, h1.nc hm, (hst s W W').2 h2 hm⟩
  · intro l x W K' hK
    exact asg_wp (r0 := some l) asg K' _ _ hasg hK
  · rintro l pre x W ⟨h1, h2⟩ hlt
    have hb := hbody pre x W h1 h2 hlt
    split at hb
    · rename_i e0 he0
      split at hb
      · rename_i e1 he1
        simp only [fE_eq, fH_eq] at hb
        have hag0 := parE_sound (ds := []) ps.toList (encs x) e e0 a ha he0
        have hag : AgS [] ρ n e1 (asgA asg { tmps := (ps.zip (⟨encs x⟩ : Array Value)).foldl (fun t (p, v) => t.setIfInBounds p v) a.tmps, defers := [] }) := by
          refine asgE_sound asg e0 e1 _ ?_ he1
          rw [ha.1] at hag0
          have hz : (ps.zip (⟨encs x⟩ : Array Value)).foldl (fun t (p, v) => t.setIfInBounds p v) a.tmps = (ps.toList.zip (encs x)).foldl (fun t (p, v) => t.setIfInBounds p v) a.tmps := by
            rw [← Array.foldl_toList, Array.toList_zip]
          rw [hz]; exact hag0
        refine vCode_sound (ds := []) (r0 := some l) (N := 8) hC (drw_sound hC) body [] _ (ownPostG w.heap.size Kp (fun pre W => Holds ρ (G pre) W ∧ F pre W) (fun c pre W => c = .ret ∧ Holds ρ (Gx pre) W ∧ Fx pre W) (pre ++ [x]) W) ρ e1 (G pre) W _ ?_ (fun id kc hk => by cases hk) ?_ hag h1 hb
        · rintro e' l' H' a' w' k1 k2 ⟨k3, k4, k5, k6⟩
          exact ⟨k5, k6, k2.back k3 fun q c hq => (hwf.get (hwf' _).1) q c hq, k4⟩
        · rintro e' l' H' a' w' k1 k2 ⟨k3, k4, k5⟩
          exact ⟨k5, rfl, k2.back k3 fun q c hq => (hwf.get (hwf' _).2) q c hq, k4⟩
      · exact hb.elim
    · exact hb.elim
  · rintro D xs W hD hS ⟨h1, h2⟩ hK
    have := hdone D xs W hD hS h1 h2 hK
    rw [fH_eq] at this
    refine restV_sound (live := live) (ds := [mark D]) (N := 10) hC (goesM D .ret (.inr rfl)) (goesM D .normal (.inl rfl)) cs [] e (G xs) W _ ?_ ?_ ?_
    · rw [List.append_nil]; exact agM D
    · rw [List.append_nil]; exact h1
    · rw [List.append_nil]; exact this
  · rintro D c pre W hD hSp ⟨rfl, h1, h2⟩ hK
    have := hstop D pre W hD hSp h1 h2 hK
    rw [fH_eq] at this
    refine wpIn_ret ?_
    exact retM_sound (M := 10) hC (agM D) h1 this
theorem vTop_sound {C : Cx} {live : List Nat} {fn : Func} {K : Value → World → Prop} (hC : C.Ok) : ∀ (q : Nat) (c : Code) (cs : List Code) (ρ : List Nat) (e : SEnv) (H : Heap) (w : World) (a : Act), AgS [] ρ n e a → Holds ρ H w →
    vTop C n live fn.results.toList K q c cs e ρ H w → c.wpIn (Wf none) 10 C.P (Exit.then (restWp (Wf none) 10 C.P (bodyPostM (Wf none) 10 C.P fn (fun en w' => ∃ v, en = .returned v ∧ K v w')) cs) (bodyPostM (Wf none) 10 C.P fn (fun en w' => ∃ v, en = .returned v ∧ K v w'))) a w := by
  have goes0 : ∀ ρ ex, (ex = Exit.normal ∨ ex = Exit.ret) → Goes [] ρ n (vRet C fn.results.toList K) (bodyPostM (Wf none) 10 C.P fn (fun en w' => ∃ v, en = .returned v ∧ K v w') ex) := by
    rintro ρ ex hex e' l H' a' w' h1 h2 h3
    obtain ⟨v, hr, hK⟩ := vRet_sound hC h1 h2 h3
    have : LeavesInM (Wf none) 10 C.P fn a'.tmps (fun en w' => ∃ v, en = .returned v ∧ K v w') a'.defers .returning w' := by
      rw [h1.1]; exact ⟨v, hr, v, rfl, hK⟩
    rcases hex with rfl | rfl
    · exact this
    · exact this
  intro q
  induction q with
  | zero => intro c cs ρ e H w a _ _ h; exact h.elim
  | succ q ih =>
    intro c cs ρ e H w a ha hH h
    have plain : ∀ c : Code, (match cs with
        | [] => vCode C n live (vRet C fn.results.toList K) c [] (vRet C fn.results.toList K) e ρ H w
        | y :: cs' => vCode C n live (vRet C fn.results.toList K) c [] (vTop C n live fn.results.toList K q y cs') e ρ H w) →
        c.wpIn (Wf none) 10 C.P (Exit.then (restWp (Wf none) 10 C.P (bodyPostM (Wf none) 10 C.P fn (fun en w' => ∃ v, en = .returned v ∧ K v w')) cs) (bodyPostM (Wf none) 10 C.P fn (fun en w' => ∃ v, en = .returned v ∧ K v w'))) a w := by
      intro c h
      cases cs with
      | nil => exact vCode_sound (r0 := none) hC (drw_sound hC) c [] _ _ ρ e H w a (goes0 ρ .normal (.inl rfl)) (fun id kc hk => by cases hk) (goes0 ρ .ret (.inr rfl)) ha hH h
      | cons y cs' =>
        refine vCode_sound (r0 := none) hC (drw_sound hC) c [] _ _ ρ e H w a ?_ (fun id kc hk => by cases hk) (goes0 ρ .ret (.inr rfl)) ha hH h
        intro e' l H' a' w' h1 h2 h3
        exact ih y cs' (ρ ++ l) e' H' w' a' h1 h2 h3
    cases c with
    | seq x y =>
      refine wpIn_seq ?_
      refine wpIn_mono (ih x (y :: cs) ρ e H w a ha hH h) ?_
      intro ex a' w' hh
      cases ex <;> exact hh
    | block id b =>
      cases b with
      | rangeFunc g ps asg body =>
        refine wpIn_block ?_
        exact range_sound hC ha hH h
      | _ => exact plain _ (by cases cs <;> exact h)
    | _ => exact plain _ (by cases cs <;> exact h)
theorem Runs.of_vcR {C : Cx} {f : FuncId} {fn : Func} {c : Code} {K : Value → World → Prop} (hC : C.Ok) (q : Nat) (live : List Nat) (vs : List SV) (hf : C.P.funcs[f]? = some fn) (hb : fn.body = some c) (hn : Nat.ble vs.length fn.ntmps = true)
    (hw : wfs ρ.length vs = true) (hH : Holds ρ H w) (h : vTop C fn.ntmps live fn.results.toList K q c [] (argsS 0 vs) ρ H w) : Runs C.P f ⟨concs ρ vs⟩ w K := by
  have hn' : vs.length ≤ fn.ntmps := Nat.le_of_ble_eq_true hn
  have hag : AgS [] ρ fn.ntmps (argsS 0 vs) ⟨(concs ρ vs).toArray ++ Array.replicate (fn.ntmps - (concs ρ vs).toArray.size) undef, []⟩ := by
    refine ⟨rfl, by simp [concs_length]; omega, fun t s hs => ?_⟩
    obtain ⟨_, h2⟩ := look_argsS vs 0 t s hs
    rw [Nat.sub_zero] at h2
    obtain ⟨hlt, _⟩ := List.getElem?_eq_some_iff.1 h2
    refine ⟨wfs_get hw h2, ?_⟩
    rw [Array.getElem?_append_left (by simpa [concs_length] using hlt)]
    simp [concs_get, h2]
  have hwp := vTop_sound hC q c [] ρ _ H w _ hag hH h
  have hc : CallsIn (Wf none) 10 C.P f ⟨concs ρ vs⟩ w (fun en w' => ∃ v, en = .returned v ∧ K v w') := by
    refine callsIn_of_wp_marks hf hb trivial (wpIn_mono hwp ?_) rfl
    intro ex a' w' hh
    cases ex with
    | normal => exact hh
    | _ => exact hh
  exact callsIn_wide.1 hc
theorem KeepsFrom.of_mod {S : Nat → Prop} {B : Nat} {W W' : World} (hm : Mod S W W') (h : ∀ k, B ≤ k → S k → ∃ o : Obj, W.heap[k]? = some o ∧ o.isCells = true) : KeepsFrom B W W' :=
  ⟨hm.size, fun k o hB hk ho => (hm.block k (Array.getElem?_eq_some_iff.1 hk).1 fun hs => by
    obtain ⟨o', h1, h2⟩ := h k hB hs
    rw [hk] at h1; cases h1; rw [ho] at h2; cases h2).trans hk⟩
theorem KeepsFrom.below {S : Nat → Prop} {B : Nat} {W W' : World} (hm : Mod S W W') (h : ∀ k, S k → k < B) : KeepsFrom B W W' := KeepsFrom.of_mod hm fun k hB hs => by have := h k hs; omega
theorem Ext.nc {w W W' : World} {B : Nat} (h : Ext w W) (hB : w.heap.size ≤ B) (hm : Mod (NC B W) W W') : Ext w W' := h.trans' hm fun k hk hs => by have := hs.1; omega
end
end Go.Proofs.Bw

/-
  The iterator over the parameters of a level.
-/
namespace Go.Proofs.YtfljbnhhkdaobaaGreat
open Go Go.RowKit Go.Shelf Go.Proofs.Bw
attribute [local go_sem] Oper.semAt_some
def upF (l : L) : Nat → List (Fin 4)
  | 0 => []
  | k + 1 => if h : k < 4 then if 0 ≤ l.p k then upF l k ++ [⟨k, h⟩] else upF l k else upF l k
end Go.Proofs.YtfljbnhhkdaobaaGreat
