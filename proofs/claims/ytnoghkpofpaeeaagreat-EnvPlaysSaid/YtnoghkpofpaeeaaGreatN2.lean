/-
  All nodes are gone through, and their names gathered.
-/
import Derived.Test.YtnoghkpofpaeeaaGreatN1
namespace Go.Proofs.YtnoghkpofpaeeaaGreat
open Go Go.RowKit Go.Proofs.Bw
set_option linter.unusedVariables false
set_option linter.unusedSimpArgs false

/-- What lies at g and is owned of names gathered; what a step leaves. -/
def Gath (lo g : Nat) (A : Option Addr) (c : Nat) (st : List (List UInt8)) (w : World) : Prop := Box w g [.slice A st.length c] ∧ OwnR w lo 9 1 A c (zR st)
theorem Gath.ext {lo g c : Nat} {A : Option Addr} {st : List (List UInt8)} {w w' : World} (h : Gath lo g A c st w) (hx : Ext w w') : Gath lo g A c st w' := ⟨h.1.ext hx, h.2.ext hx⟩
def Gone (lo g : Nat) (A : Option Addr) (st : List (List UInt8)) (w w' : World) : Prop := ∃ A' c', Gath lo g A' c' st w' ∧ Bw.Mod (gOf g A) w w' ∧ ∀ k, ownOf A' k → ownOf A k ∨ w.heap.size ≤ k
theorem gOf_mods {g : Nat} {A A0 : Option Addr} {w0 w w' : World} (h : Bw.Mod (gOf g A0) w0 w) (hf : ∀ k, ownOf A k → ownOf A0 k ∨ w0.heap.size ≤ k) (h2 : Bw.Mod (gOf g A) w w') : Bw.Mod (gOf g A0) w0 w' :=
  h.trans' h2 fun k hk hs => by
    rcases hs with rfl | hs
    · exact .inl rfl
    · rcases hf k hs with h1 | h1
      · exact .inr h1
      · omega
theorem depth_mem (ts : List T) (k n : Int) (s : ByteArray) (ls : List L) (i : Nat) (h : i < ts.length) : depth ts[i] + 1 ≤ depth (T.mk k n s ls ts) := by
  have h1 := depths_take ts i h
  have h2 := depths_take_le ts (i + 1)
  simp only [depth]; omega
theorem size_mem (ts : List T) (k n : Int) (s : ByteArray) (ls : List L) (i : Nat) (h : i < ts.length) : sizes (ts.take i) + size ts[i] + 1 ≤ size (T.mk k n s ls ts) := by
  have h1 := sizes_take ts i h
  have h2 := sizes_take_le ts (i + 1)
  simp only [size]; omega
theorem namess_len (ts : List T) : (namess ts).length ≤ sizes ts := by
  induction ts with
  | nil => simp [namess, sizes]
  | cons t r ih => have := names_len t; simp only [namess, sizes, List.length_append]; omega
theorem nms_len (ts : List T) (k n : Int) (s : ByteArray) (ls : List L) (i : Nat) (h : i < ts.length) : (nm1 s ++ namess (ts.take i)).length + size ts[i] ≤ size (T.mk k n s ls ts) := by
  have h1 := size_mem ts k n s ls i h
  have h2 := namess_len (ts.take i)
  have h3 := nm1_len s
  rw [List.length_append]; omega
theorem each_names {lo : Nat} (t : T) : ∀ (cs : List Value) (around : Int) (g : Nat) (A : Option Addr) (c : Nat) (st : List (List UInt8)) (w0 : World) (R : Nat → Prop) (hv : VT w0 R cs t) (hR : ∀ k, R k → k < lo ∧ k ≠ g) (hg : g < lo) (hlo : lo ≤ w0.heap.size) (hb : 0 ≤ around ∧ around + depth t ≤ 1099511627776) (hsz : st.length + size t ≤ 1000000) (h0 : Gath lo g A c st w0),
    Runs Tryz.prog 63 #[.agg cs.toArray, .int .i64 around, .func (.func 64) #[] #[.pointer (some ⟨g, 0, none⟩)]] w0 fun v w' => v = .bool true ∧ Gone lo g A (st ++ names t) w0 w' := by
  induction t using T.ind with
  | h k n s ls ts ih =>
  intro cs around g A c st w0 R hv hR hg hlo hb hsz h0
  obtain ⟨k', n', s', ls', ts', la, lc, ta, tc, he, rfl, hk, hn, hs, hl, ht, hL, hT⟩ := hv.inv
  injection he with ek en es el et
  subst ek; subst en; subst es; subst el; subst et
  refine Runs.of_vc (ρ := []) cx_ok [0, 1, 2, 3, 6, 7, 8, 13, 15, 16, 17, 18, 30] [.a [.v (.int .u8 k), .v (.int .i64 n), .v (.string s), .v (.slice la ls.length lc), .v (.slice ta ts.length tc)], .v _, .f 64 [] [.v _]] Tryz.func63 rfl rfl rfl (Holds.nil w0) ?_
  intro g1 w1 e1 x1 z1 hh1
  have hsz0 := size_pos (T.mk k n s ls ts)
  have hA : ∀ a, A = some a → lo ≤ a.block ∧ a.block < w0.heap.size := fun a ha => h0.2.block ha
  refine (Names1_runs k n s la ta ls.length lc ts.length tc around g A c st w1 (h0.1.ext x1) (h0.2.ext x1) hg (by omega) (by omega)).mono ?_
  rintro _ w2 ⟨rfl, A2, c2, b2, o2, m2, f2⟩
  have hh2 := hh1.mod m2 (fun i hi => by
    rintro (hk | ⟨a, ha, hk⟩)
    · match i, hi with
      | 0, _ => have e : g1 = g := hk; omega
    · have := hA a ha
      match i, hi with
      | 0, _ => have e : g1 = a.block := hk; omega)
  refine Lands.v hh2 ?_
  refine Or.inl (And.intro (fun h => by simp at h) (fun _ => ?_))
  have hA2 : ∀ k, ownOf A2 k → (ownOf A k ∨ w0.heap.size ≤ k) ∧ k ≠ g1 := fun k hk => by
    rcases f2 k hk with ⟨a, ha, h1⟩ | h1
    · have := hA a ha
      exact ⟨.inl ⟨a, ha, h1⟩, by omega⟩
    · exact ⟨.inr (by omega), by omega⟩
  have mm2 : Bw.Mod (gOf g A) w0 w2 := (Mod.mono x1 fun k hk => hk.elim).trans m2
  have hRg : ∀ k, R k → ¬ gOf g A k := fun k hk h => by
    have h1 := hR k hk
    rcases h with h | ⟨a, ha, h⟩
    · omega
    · have := hA a ha; omega
  refine vLoop_mk (σ := Nat × Option Addr × Nat) (fun q => [(1, .v (.int .i64 around)), (2, .f 64 [] [.v (.pointer (some ⟨g, 0, none⟩))]), (3, .p 0 0), (15, .v (.slice ta ts.length tc)), (16, .v (.int .i64 ts.length)), (17, .v (.int .i64 q.1))])
    (fun _ => [(0, [.v (.int .u8 k), .v (.int .i64 n), .v (.string s), .v (.slice la ls.length lc), .v (.slice ta ts.length tc)])])
    (fun q w' => q.1 ≤ ts.length ∧ Gath lo g q.2.1 q.2.2 (st ++ nm1 s ++ namess (ts.take q.1)) w' ∧ Bw.Mod (gOf g A) w0 w' ∧ ∀ k, ownOf q.2.1 k → (ownOf A k ∨ w0.heap.size ≤ k) ∧ k ≠ g1) (fun q => ts.length - q.1) (0, A2, c2) (fun _ => ⟨rfl, rfl⟩)
    ⟨⟨rfl, rfl, rfl, rfl, rfl, rfl, trivial⟩, ⟨rfl, trivial⟩, Nat.zero_le _, ⟨by simpa [namess] using b2, by simpa [namess] using o2⟩, mm2, hA2⟩ ?_
  rintro ⟨i, A3, c3⟩ w3 hh3 ⟨hi, g3, mm3, hA3⟩
  simp only at hi g3 hA3
  refine Or.inl (And.intro (fun h2 => ?_) (fun h2 => ?_))
  · have hlt := of_decide_eq_true h2
    simp only at hlt
    have hil : i < ts.length := by omega
    obtain ⟨a1, cx, ha1, hR1, hrow, hvx⟩ := (hT.mod mm3 hRg).at hil
    obtain ⟨k', n', s', ls', ts', la', lc', ta', tc', ex, rfl, -⟩ := hvx.inv
    refine OpT.indexAddr Tryz.underlying25 Tryz.sizeOf27 rfl rfl ha1 (by omega) ?_
    refine Lands.v hh3 ?_
    refine OpT.loadA (cs := [.int .u8 k', .int .i64 n', .string s', .slice la' ls'.length lc', .slice ta' ts'.length tc']) Tryz.isAgg27 Tryz.sizeOf27 rfl hrow ?_
    refine Lands.v hh3 ?_
    intro g8 w4 e4 x4 z4 hh4
    intro w5 m5 z5 hh5
    replace m5 : Upd g8 w4 w5 := m5
    have y5 : Ext w3 w5 := x4.upd m5 (by omega)
    refine vDrw_mk [4, 7] (.one 0 (.one 1 (.one 2 (.one 3 (.one 6 (.one 4 (.one 5 (.one 7 (.one 8 .nil))))))))) rfl fun w6 x6 hh6 => ?_
    have y6 := y5.trans x6
    have mm6 : Bw.Mod (gOf g A) w0 w6 := mm3.trans (Mod.mono y6 fun k hk => hk.elim)
    have hbi := binds_le k i
    refine vcS (binds_runs k n s ls ts i _ w6 R (hv.mod mm6 hRg)) hh6 fun w7 x7 hh7 => ?_
    refine And.intro x7 ?_
    refine vsd (by simp only [inKind]; omega) ?_
    have g7 := g3.ext (y6.trans x7)
    have mm7 := mm6.trans (Mod.mono x7 fun k hk => hk.elim)
    have s7 := mm7.size
    have hds := depth_mem ts k n s ls i hil
    have hss := size_mem ts k n s ls i hil
    have hnl := nms_len ts k n s ls i hil
    refine (ih ts[i] (List.getElem_mem hil) _ (around + binds k i) g A3 c3 _ w7 R (hvx.ext (y6.trans x7)) hR hg (by omega) (by omega) (by rw [List.append_assoc, List.length_append]; omega) g7).mono ?_
    rintro _ w8 ⟨rfl, A4, c4, g4, m8, f8⟩
    have hh8 := hh7.mod m8 (fun i hi => by
      rintro (hk | ⟨a, ha, hk⟩)
      · match i, hi with
        | 0, _ => have e : g1 = g := hk; omega
        | 1, _ => have e : g8 = g := hk; have := mm3.size; omega
      · have h9 := hA3 _ ⟨a, ha, hk⟩
        have h10 := (g3.2.block ha).2
        match i, hi with
        | 0, _ => exact h9.2 rfl
        | 1, _ => have e : g8 = a.block := hk; omega)
    refine Lands.v hh8 ?_
    refine Or.inl (And.intro (fun h => by simp at h) (fun _ => ?_))
    refine vsd (by simp only [inKind]; have := ht.1; have := ht.2; omega) ?_
    have hg1 : g1 < w3.heap.size := hh3.lt 0 Nat.zero_lt_one
    have e9 : st ++ nm1 s ++ namess (ts.take i) ++ names ts[i] = st ++ nm1 s ++ namess (ts.take (i + 1)) := by rw [namess_take ts i hil, ← List.append_assoc]
    rw [e9] at g4
    exact Exists.intro (i + 1, A4, c4) ⟨by simp only; omega, ⟨rfl, rfl, rfl, rfl, rfl, rfl, trivial⟩, ⟨rfl, trivial⟩, hil, g4, gOf_mods mm7 (fun k hk => (hA3 k hk).1) m8, fun k hk => by
      rcases f8 k hk with h1 | h1
      · exact hA3 k h1
      · have := (y6.trans x7).size
        exact ⟨.inr (by omega), by omega⟩⟩
  · have hge := of_decide_eq_false h2
    simp only at hge
    have hil : i = ts.length := by omega
    subst hil
    rw [List.take_length, List.append_assoc] at g3
    exact ⟨rfl, A3, c3, g3, mm3, fun k hk => (hA3 k hk).1⟩
end Go.Proofs.YtnoghkpofpaeeaaGreat

