/-
  A term's text.
-/
import Derived.Test.YtmibjillclfogaaDoorC1
import Derived.Lib.ItoaLen
namespace Go.Proofs.YtmibjillclfogaaDoor
open Go Go.RowKit Go.Proofs.Bw
set_option linter.unusedVariables false
set_option linter.unusedSimpArgs false

def encN (i : Int) : List UInt8 := Lib.itoa i ++ [32]
def gB (lo g : Nat) (w : World) : Nat → Prop := fun k => k = g ∨ byB lo w k
theorem gB_trans {lo g : Nat} {a b c : World} (h : Bw.Mod (gB lo g a) a b) (k : Bw.Mod (gB lo g b) b c) : Bw.Mod (gB lo g a) a c :=
  h.trans' k fun i hi hs => by
    rcases hs with h0 | ⟨h1, cs, fz, h2⟩
    · exact .inl h0
    · by_cases h3 : gB lo g a i
      · exact h3
      · exact .inr ⟨h1, cs, fz, (h.block i hi h3).symm.trans h2⟩
/-- bytes in a box -/
def TB (lo g : Nat) (A : Option Addr) (c : Nat) (bs : List UInt8) (w : World) : Prop := Box w g [.slice A bs.length c] ∧ tyAt w g 64 ∧ OwnR w lo 5 1 A c (bR bs)
theorem TB.ext {lo g c : Nat} {A : Option Addr} {bs : List UInt8} {w w' : World} (h : TB lo g A c bs w) (hx : Ext w w') : TB lo g A c bs w' := ⟨h.1.ext hx, h.2.1.ext hx, h.2.2.ext hx⟩
set_option maxRecDepth 20000 in
theorem number_runs {B lo : Nat} (g : Nat) (A : Option Addr) (c : Nat) (bs : List UInt8) (i : Int) (w : World) (h : TB lo g A c bs w) (hT : Tb B w) (hB : B ≤ lo) (hlo : lo ≤ w.heap.size) (hgl : lo ≤ g) (hl : bs.length ≤ 100000000) (hi : i64ok i) :
    Runs Tryd.prog 34 #[.int .i64 i, .pointer (some ⟨g, 0, none⟩)] w fun v w' => v = .tuple #[] ∧ ∃ d A' c', d = encN i ∧ TB lo g A' c' (bs ++ d) w' ∧ Bw.Mod (gB lo g w) w w' := by
  obtain ⟨b, ty, o⟩ := h
  have hh := Holds.one (g := g) (cs := [.v (.slice A bs.length c)]) b rfl
  refine Runs.of_vc (ρ := [g]) cx_ok [0, 1] [.v _, .p 0 0] Tryd.func34 rfl rfl rfl hh ?_
  have hgb : ∀ {w : World}, tyAt w g 64 → ¬ byB lo w g := fun h => not_byB h (by decide)
  have hit : (Lib.itoa i).length ≤ 21 := Lib.itoa_length_le _ hi.1 hi.2
  have hA := AppI_runs A c bs i w o hT hB hlo (by omega) hi
  have een : Lib.itoa i ++ [32] = encN i := rfl
  revert hA hit een
  generalize Lib.itoa i = it
  generalize encN i = en
  intro hit hA een
  refine hA.mono ?_
  rintro _ w1 ⟨A1, c1, rfl, o1, m1⟩
  have ty1 := ty.mod m1 (hgb ty)
  have hh1 := hh.mod m1 (fun i hi hk => by
    match i, hi with
    | 0, _ => exact hgb ty hk)
  refine Lands.v hh1 ?_
  refine OpT.buildSlice (cs := #[.int .u8 32]) (.cons rfl .nil) Tryd.underlying64 Tryd.sizeOf5 Tryd.zeroValue5 rfl (by kernel_rfl) fun w2 g2 e2 x2 z2 b2 => ?_
  refine Lands.v (hh1.ext x2) ?_
  have ebs : bs ++ en = (bs ++ it) ++ [32] := by rw [← een, List.append_assoc]
  refine OpT.append1' el5 Tryd.underlying64 rfl rfl (o1.ext x2) b2 (by rw [bR_length]) rfl rfl (css' := bR (bs ++ en)) (by rw [ebs, bR_append (bs ++ it)]; rfl) (n' := (bs ++ en).length) (bR_length _) (by rw [bR_length, ebs, List.length_append, List.length_append]; simp; omega) (by have := m1.size; omega) fun w3 A3 c3 m3 o3 f3 => ?_
  have m03 : Bw.Mod (byB lo w) w w3 := byB_own (byB_trans m1 (byB_ext x2)) (o1.ext x2) m3
  have ty3 := ty.mod m03 (hgb ty)
  have hh3 := hh.mod m03 (fun i hi hk => by
    match i, hi with
    | 0, _ => exact hgb ty hk)
  refine Lands.v hh3 ?_
  intro w4 m4 z4 hh4
  replace m4 : Upd g w3 w4 := m4
  have hA3 : ∀ a, A3 = some a → ¬ a.block = g := fun a ha e => by
    rcases o3.2.2 with ⟨h1, _⟩ | ⟨g', cap, cur, h1, h2, h3, _⟩
    · injection h1 with h1; rw [ha] at h1; cases h1
    · injection h1 with h1
      rw [ha] at h1
      injection h1 with h1
      subst h1
      exact hgb ty3 ⟨by omega, cur, _, by rw [← e]; exact h3⟩
  exact ⟨rfl, en, A3, c3, rfl, ⟨hh4.box 0 _ rfl, z4.2 _ _ ty3, o3.mod m4 hA3⟩, (m03.mono fun k hk => .inr hk).trans (m4.mono fun k hk => .inl hk)⟩
theorem encN_len (i : Int) (hi : i64ok i) : (encN i).length ≤ 22 := by
  have := Lib.itoa_length_le i hi.1 hi.2
  rw [encN, List.length_append]; simp; omega
def encPs (l : L) (j : Nat) : List UInt8 := (List.range j).flatMap fun i => encN (l.p i)
theorem encPs_succ (l : L) (j : Nat) : encPs l (j + 1) = encPs l j ++ encN (l.p j) := by simp [encPs, List.range_succ]
def encL (l : L) : List UInt8 := encN l.c ++ encPs l 4
def encLs (ls : List L) : List UInt8 := ls.flatMap encL
theorem encLs_take (ls : List L) (i : Nat) (h : i < ls.length) : encLs (ls.take (i + 1)) = encLs (ls.take i) ++ encL ls[i] := by
  unfold encLs
  rw [take_snoc ls i h, List.flatMap_append]
  simp only [List.flatMap_cons, List.flatMap_nil, List.append_nil]
mutual
def encT : T → List UInt8
  | .mk k n s ls ts => encN k ++ encN n ++ s.data.toList ++ [32] ++ encN ls.length ++ encLs ls ++ encTs ts
def encTs : List T → List UInt8
  | [] => []
  | t :: r => encT t ++ encTs r
end
theorem encTs_append (a b : List T) : encTs (a ++ b) = encTs a ++ encTs b := by
  induction a with
  | nil => simp [encTs]
  | cons t r ih => simp only [List.cons_append, encTs, ih, List.append_assoc]
theorem encTs_take (ts : List T) (i : Nat) (h : i < ts.length) : encTs (ts.take (i + 1)) = encTs (ts.take i) ++ encT ts[i] := by
  rw [take_snoc ts i h, encTs_append]; simp [encTs]
theorem node_small {k n : Int} {s : ByteArray} {ls : List L} {ts : List T} (h : nodes (.mk k n s ls ts) = true) : s.size ≤ 32 ∧ ls.length ≤ 4 ∧ nodess ts = true := by
  simp only [nodes, Bool.and_eq_true] at h
  have h1 := (nodeB_iff k n s ls ts).1 h.1
  have h2 := h1.2.2.2.1
  have h3 := h1.2.2.2.2.2
  refine ⟨?_, ?_, h.2⟩
  · split at h2
    · unfold nameB at h2
      simp only [Bool.and_eq_true, decide_eq_true_eq] at h2
      omega
    · omega
  · split at h3
    · omega
    · split at h3 <;> omega
/-- what is owned is not a block of another kind -/
theorem own_not {w : World} {lo g c : Nat} {A : Option Addr} {css : List (List Value)} {t : TypeId} (h : tyAt w g t) (ht : t ≠ 5) (o : OwnR w lo 5 1 A c css) : ∀ a, A = some a → ¬ a.block = g := fun a ha e => by
  rcases o.2.2 with ⟨h1, _⟩ | ⟨g', cap, cur, h1, h2, h3, _⟩
  · injection h1 with h1; rw [ha] at h1; cases h1
  · injection h1 with h1
    rw [ha] at h1
    injection h1 with h1
    subst h1
    exact not_byB (lo := 0) h ht ⟨Nat.zero_le _, cur, _, by rw [← e]; exact h3⟩
theorem encPs_len (l : L) (h : l.wf) (j : Nat) : (encPs l j).length ≤ 22 * j := by
  induction j with
  | zero => simp [encPs]
  | succ j ih =>
    have hp : i64ok (l.p j) := by
      obtain ⟨_, h0, h1, h2, h3⟩ := h
      unfold L.p; split <;> assumption
    have := encN_len _ hp
    rw [encPs_succ, List.length_append]; omega
theorem encL_len (l : L) (h : l.wf) : (encL l).length ≤ 110 := by
  have h1 := encN_len l.c h.1
  have h2 := encPs_len l h 4
  rw [encL, List.length_append]; omega
theorem encLs_len : ∀ (ls : List L), (∀ l ∈ ls, l.wf) → (encLs ls).length ≤ 110 * ls.length
  | [], _ => by simp [encLs]
  | l :: r, h => by
    have h1 := encL_len l (h l List.mem_cons_self)
    have h2 := encLs_len r fun x hx => h x (List.mem_cons_of_mem _ hx)
    unfold encLs at h2 ⊢
    rw [List.flatMap_cons, List.length_append, List.length_cons]; omega
theorem may_wf {l : L} (h : l.may = true) : l.wf := by
  obtain ⟨h0, h1⟩ := (L.may_iff l).1 h
  have p : ∀ i, i < 4 → i64ok (l.p i) := fun i hi => by
    have := of_decide_eq_true (h1 i hi)
    unfold i64ok; omega
  exact ⟨by unfold i64ok; omega, p 0 (by omega), p 1 (by omega), p 2 (by omega), p 3 (by omega)⟩
theorem node_num {k n : Int} {s : ByteArray} {ls : List L} {ts : List T} (h : nodeB (.mk k n s ls ts) = true) : (0 ≤ k ∧ k ≤ 8) ∧ i64ok n ∧ ∀ l ∈ ls, l.wf := by
  have h1 := (nodeB_iff k n s ls ts).1 h
  refine ⟨?_, ?_, fun l hl => may_wf (List.all_eq_true.1 h1.2.2.1 l hl)⟩
  · have := h1.1
    unfold kidsI at this
    omega
  · have := h1.2.2.2.2.1
    unfold i64ok
    split at this
    · omega
    · split at this <;> omega
theorem encT_len (t : T) (h : nodes t = true) : (encT t).length ≤ 600 * size t := by
  revert h
  refine T.rec (motive_1 := fun t => nodes t = true → (encT t).length ≤ 600 * size t) (motive_2 := fun ts => nodess ts = true → (encTs ts).length ≤ 600 * sizes ts) ?_ ?_ ?_ t
  · intro k n s ls ts ih h
    obtain ⟨h1, h2, h3⟩ := node_small h
    simp only [nodes, Bool.and_eq_true] at h
    obtain ⟨h4, h5, h6⟩ := node_num h.1
    have h7 := ih h3
    have e1 := encN_len k ⟨by omega, by omega⟩
    have e2 := encN_len n h5
    have e3 := encN_len (ls.length : Int) ⟨by omega, by omega⟩
    have e4 := encLs_len ls h6
    have e5 : s.data.toList.length = s.size := rfl
    simp only [encT, List.length_append, List.length_cons, List.length_nil, size]
    omega
  · intro _; simp [encTs]
  · intro t r h1 h2 h
    simp only [nodess, Bool.and_eq_true] at h
    have a := h1 h.1
    have b := h2 h.2
    simp only [encTs, sizes, List.length_append]; omega
theorem encTs_len (ts : List T) (h : nodess ts = true) : (encTs ts).length ≤ 600 * sizes ts := by
  induction ts with
  | nil => simp [encTs]
  | cons t r ih =>
    simp only [nodess, Bool.and_eq_true] at h
    have h1 := encT_len t h.1
    have h2 := ih h.2
    simp only [encTs, sizes, List.length_append]; omega
theorem nodess_get {ts : List T} (h : nodess ts = true) (i : Nat) (hi : i < ts.length) : nodes ts[i] = true := by
  have h1 := nodess_take ts i hi
  rw [nodess_take_le ts (i + 1) h, nodess_take_le ts i h] at h1
  simpa using h1.symm
theorem sizes_get (ts : List T) (k n : Int) (s : ByteArray) (ls : List L) (i : Nat) (h : i < ts.length) : sizes (ts.take i) + size ts[i] + 1 ≤ size (T.mk k n s ls ts) := by
  have h1 := sizes_take ts i h
  have h2 := sizes_take_le ts (i + 1)
  simp only [size]; omega
structure TX (B lo g1 g2 : Nat) (w2 : World) (A : Option Addr) (c : Nat) (bs : List UInt8) (w : World) : Prop where
  tb : TB lo g1 A c bs w
  ty : tyAt w g2 36
  mm : Bw.Mod (gB lo g1 w2) w2 w
  tab : Tb B w
theorem TX.not2 {B lo g1 g2 c : Nat} {A : Option Addr} {bs : List UInt8} {w2 w : World} (h : TX B lo g1 g2 w2 A c bs w) (hne : g1 ≠ g2) : ¬ gB lo g1 w g2 := by
  rintro (h1 | h1)
  · exact hne h1.symm
  · exact not_byB h.ty (by decide) h1
theorem TX.go {B lo g1 g2 c c' : Nat} {A A' : Option Addr} {bs bs' : List UInt8} {w2 w w' : World} (h : TX B lo g1 g2 w2 A c bs w) (hne : g1 ≠ g2) (m : Bw.Mod (gB lo g1 w) w w') (tb : TB lo g1 A' c' bs' w') (hB : B ≤ lo) (hg : lo ≤ g1) (hl : lo ≤ w2.heap.size) : TX B lo g1 g2 w2 A' c' bs' w' :=
  ⟨tb, h.ty.mod m (h.not2 hne), gB_trans h.mm m, h.tab.mod m (fun k hk => by
    rcases hk with h1 | ⟨h1, _⟩ <;> omega) (by have := h.mm.size; omega)⟩
theorem gB_ext {lo g : Nat} {w w' : World} (h : Ext w w') : Bw.Mod (gB lo g w) w w' := h.mono fun _ h => h.elim
theorem byB_gB {lo g : Nat} {w w' : World} (h : Bw.Mod (byB lo w) w w') : Bw.Mod (gB lo g w) w w' := h.mono fun _ h => .inr h
set_option maxRecDepth 20000 in
set_option maxHeartbeats 1000000 in
theorem text_runs {B lo : Nat} (hB : B ≤ lo) (t : T) : ∀ (cs : List Value) (A : Option Addr) (c : Nat) (bs : List UInt8) (w : World) (R : Nat → Prop) (hv : VT w R cs t) (hR : ∀ k, R k → k < lo) (hlo : lo ≤ w.heap.size) (hT : Tb B w) (ho : OwnR w lo 5 1 A c (bR bs)) (hno : nodes t = true) (hsz : bs.length + 600 * size t ≤ 100000000),
    Runs Tryd.prog 27 #[.slice A bs.length c, .agg cs.toArray] w fun v w' => ∃ d A' c', d = encT t ∧ v = .slice A' (bs ++ d).length c' ∧ OwnR w' lo 5 1 A' c' (bR (bs ++ d)) ∧ Bw.Mod (byB lo w) w w' := by
  induction t using T.ind with
  | h k n s ls ts ih =>
  intro cs A c bs w R hv hR hlo hT ho hno hsz
  obtain ⟨k', n', s', ls', ts', la, lc, ta, tc, he, rfl, hk, hn, hs, hl, ht, hL, hT'⟩ := hv.inv
  injection he with ek en es el et
  subst ek; subst en; subst es; subst el; subst et
  refine Runs.of_vc (ρ := []) cx_ok [0, 1, 2, 3, 4, 5, 7, 9, 11, 34, 35, 36, 37, 45, 46, 47, 55, 56, 57, 58] [.v (.slice A bs.length c), .a [.v (.int .u8 k), .v (.int .i64 n), .v (.string s), .v (.slice la ls.length lc), .v (.slice ta ts.length tc)]] Tryd.func27 rfl rfl rfl (Holds.nil w) ?_
  intro g1 w1 e1 x1 z1 hh1
  intro g2 w2 e2 x2 z2 hh2
  have y2 := x1.trans x2
  have hne : g1 ≠ g2 := by omega
  have hg1 : lo ≤ g1 := by omega
  have hlo2 : lo ≤ w2.heap.size := by have := y2.size; omega
  have hnode := node_small hno
  have hsz1 := size_pos (T.mk k n s ls ts)
  have tx2 : TX B lo g1 g2 w2 A c bs w2 := ⟨⟨hh2.box 0 _ rfl, z1.2.ext x2, ho.ext y2⟩, z2.2, Mod.refl _ _, hT.ext y2 (by omega)⟩
  have hki : i64ok k := ⟨by omega, by omega⟩
  refine vsd (by simp only [inKind]; omega) ?_
  refine (number_runs g1 A c bs k w2 tx2.tb tx2.tab hB (Nat.le_trans hlo2 tx2.mm.size) hg1 (by first | omega | (simp only [List.length_append, List.length_cons, List.length_nil]; omega)) hki).mono ?_
  rintro _ w3 ⟨rfl, d1, A3, c3, hd1, tb', m'⟩
  have tx3 := tx2.go hne m' tb' hB hg1 hlo2
  refine Lands.to (H' := [(0, [.v (.slice A3 (bs ++ d1).length c3)]), (1, [.v (.int .u8 k), .v (.int .i64 n), .v (.string s), .v (.slice la ls.length lc), .v (.slice ta ts.length tc)])]) (s := .v _) rfl rfl hh2 m'.size ⟨tx3.tb.1, (hh2.box 1 _ rfl).mod m' (tx2.not2 hne), trivial⟩ rfl fun hh3 => ?_
  have ld1 : d1.length ≤ 22 := by rw [hd1]; exact encN_len _ hki
  clear tb' m'
  refine (number_runs g1 A3 c3 (bs ++ d1) n w3 tx3.tb tx3.tab hB (Nat.le_trans hlo2 tx3.mm.size) hg1 (by first | omega | (simp only [List.length_append, List.length_cons, List.length_nil]; omega)) hn).mono ?_
  rintro _ w4 ⟨rfl, d2, A4, c4, hd2, tb', m'⟩
  have tx4 := tx3.go hne m' tb' hB hg1 hlo2
  refine Lands.to (H' := [(0, [.v (.slice A4 ((bs ++ d1) ++ d2).length c4)]), (1, [.v (.int .u8 k), .v (.int .i64 n), .v (.string s), .v (.slice la ls.length lc), .v (.slice ta ts.length tc)])]) (s := .v _) rfl rfl hh3 m'.size ⟨tx4.tb.1, (hh3.box 1 _ rfl).mod m' (tx3.not2 hne), trivial⟩ rfl fun hh4 => ?_
  have ld2 : d2.length ≤ 22 := by rw [hd2]; exact encN_len _ hn
  clear tb' m'
  have keep : ∀ {w w' : World} {A : Option Addr} {c : Nat} {bs : List UInt8} {H : Heap}, TX B lo g1 g2 w2 A c bs w → Holds [g1, g2] H w → Bw.Mod (byB lo w) w w' → Holds [g1, g2] H w' := fun h hh m => hh.mod m (fun i hi hk => by
    match i, hi with
    | 0, _ => exact not_byB h.tb.2.1 (by decide) hk
    | 1, _ => exact not_byB h.ty (by decide) hk)
  have lls := hnode.1
  have lss : s.data.toList.length = s.size := rfl
  refine OpT.appendS' (news := bR s.data.toList) el5 Tryd.underlying64 (by rw [bR_length]; rfl) rfl tx4.tb.2.2 (by rw [← strR]; exact Go.Src.ofString _ Tryd.underlying9 s) (by rw [bR_length]; simp) (bR_len _) (by rw [bR_length, bR_length]; simp only [List.length_append, List.length_cons, List.length_nil]; omega) (Nat.le_trans hlo2 tx4.mm.size) fun w5 A5 c5 m5 o5 f5 => ?_
  have q5 := byB_own (Mod.refl _ _) tx4.tb.2.2 m5
  have hh5 := keep tx4 hh4 q5
  refine Lands.v hh5 ?_
  rw [← bR_append] at o5
  refine OpT.buildSlice (cs := #[.int .u8 32]) (.cons rfl .nil) Tryd.underlying64 Tryd.sizeOf5 Tryd.zeroValue5 rfl (by kernel_rfl) fun w6 g6 e6 x6 z6 b6 => ?_
  refine Lands.v (hh5.ext x6) ?_
  refine OpT.append1' el5 Tryd.underlying64 rfl rfl (o5.ext x6) b6 (by rw [bR_length, List.length_append, List.length_append, bR_length, bR_length]) rfl rfl (css' := bR (bs ++ d1 ++ d2 ++ s.data.toList ++ [(32 : UInt8)])) (by rw [bR_append (bs ++ d1 ++ d2 ++ s.data.toList)]; rfl) (n' := (bs ++ d1 ++ d2 ++ s.data.toList ++ [(32 : UInt8)]).length) (bR_length _) (by rw [bR_length]; simp only [List.length_append, List.length_cons, List.length_nil]; omega) (by have := tx4.mm.size; have := m5.size; have := x6.size; omega) fun w7 A7 c7 m7 o7 f7 => ?_
  have q7 := byB_own (byB_trans q5 (byB_ext x6)) (o5.ext x6) m7
  have hh7 := keep tx4 hh4 q7
  refine Lands.v hh7 ?_
  intro w8 m8 z8 hh8
  replace m8 : Upd g1 w7 w8 := m8
  have tx8 : TX B lo g1 g2 w2 A7 c7 (bs ++ d1 ++ d2 ++ s.data.toList ++ [(32 : UInt8)]) w8 := by
    refine tx4.go hne ((byB_gB q7).trans (m8.mono fun k hk => .inl hk)) ⟨hh8.box 0 _ rfl, z8.2 _ _ (tx4.tb.2.1.mod q7 (not_byB tx4.tb.2.1 (by decide))), o7.mod m8 ?_⟩ hB hg1 hlo2
    intro a ha e
    exact own_not (tx4.tb.2.1.mod q7 (not_byB tx4.tb.2.1 (by decide))) (by decide) o7 a ha e
  have hli : i64ok (ls.length : Int) := ⟨by omega, by omega⟩
  refine (number_runs g1 A7 c7 (bs ++ d1 ++ d2 ++ s.data.toList ++ [(32 : UInt8)]) (ls.length : Int) w8 tx8.tb tx8.tab hB (Nat.le_trans hlo2 tx8.mm.size) hg1 (by first | omega | (simp only [List.length_append, List.length_cons, List.length_nil]; omega)) hli).mono ?_
  rintro _ w9 ⟨rfl, d3, A9, c9, hd3, tb', m'⟩
  have tx9 := tx8.go hne m' tb' hB hg1 hlo2
  refine Lands.to (H' := [(0, [.v (.slice A9 ((bs ++ d1 ++ d2 ++ s.data.toList ++ [(32 : UInt8)]) ++ d3).length c9)]), (1, [.v (.int .u8 k), .v (.int .i64 n), .v (.string s), .v (.slice la ls.length lc), .v (.slice ta ts.length tc)])]) (s := .v _) rfl rfl hh8 m'.size ⟨tx9.tb.1, (hh8.box 1 _ rfl).mod m' (tx8.not2 hne), trivial⟩ rfl fun hh9 => ?_
  have ld3 : d3.length ≤ 22 := by rw [hd3]; exact encN_len _ hli
  clear tb' m' q5 q7 hh5 hh7 m5 m7 m8 z8
  have hwf : ∀ l ∈ ls, l.wf := fun l hl => by
    obtain ⟨i, hi, e⟩ := List.mem_iff_getElem.1 hl
    obtain ⟨_, _, _, _, hw⟩ := hL.at hi
    rw [← e]; exact hw
  have hRb : ∀ k, R k → ¬ gB lo g1 w2 k := fun k hk h => by
    have := hR k hk
    rcases h with h | ⟨h, _⟩ <;> omega
  obtain ⟨b9, hb9⟩ : ∃ b9, b9 = (bs ++ d1 ++ d2 ++ s.data.toList ++ [(32 : UInt8)] ++ d3) := ⟨_, rfl⟩
  have lb9 : b9.length ≤ bs.length + 99 := by rw [hb9]; simp only [List.length_append, List.length_cons, List.length_nil]; omega
  refine vLoop_mk (σ := Nat × List UInt8 × Option Addr × Nat) (fun q => [(2, .p 0 0), (3, .p 1 0), (5, .f 34 [] [.p 0 0]), (34, .v (.slice la ls.length lc)), (35, .v (.int .i64 ls.length)), (36, .v (.int .i64 q.1))])
    (fun q => [(0, [.v (.slice q.2.2.1 q.2.1.length q.2.2.2)]), (1, [.v (.int .u8 k), .v (.int .i64 n), .v (.string s), .v (.slice la ls.length lc), .v (.slice ta ts.length tc)])]) (fun q w' => q.1 ≤ ls.length ∧ q.2.1 = b9 ++ encLs (ls.take q.1) ∧ TX B lo g1 g2 w2 q.2.2.1 q.2.2.2 q.2.1 w') (fun q => ls.length - q.1) (0, (bs ++ d1 ++ d2 ++ s.data.toList ++ [(32 : UInt8)] ++ d3), A9, c9) (fun _ => ⟨rfl, rfl⟩)
    ⟨⟨rfl, rfl, rfl, rfl, rfl, rfl, trivial⟩, ⟨rfl, rfl, trivial⟩, Nat.zero_le _, by simp only [List.take_zero]; rw [hb9]; simp [encLs], tx9⟩ ?_
  rintro ⟨i, bb, A10, c10⟩ w10 hh10 ⟨hi, hbb, tx10⟩
  simp only at hi hbb tx10 hh10
  have lbb : bb.length ≤ bs.length + 99 + 110 * i := by
    have := encLs_len (ls.take i) fun l hl => hwf l (List.mem_of_mem_take hl)
    rw [List.length_take] at this
    rw [hbb, List.length_append]
    omega
  have hl4 := hnode.2.1
  refine And.intro (fun h5 => ?_) (fun h5 => ?_)
  · have hlt := of_decide_eq_true h5
    simp only at hlt
    have hil : i < ls.length := by omega
    obtain ⟨a1, ha1, hR1, hrow, hlw⟩ := ((hL.ext y2).mod tx10.mm hRb).at hil
    refine OpT.indexAddr Tryd.underlying34 Tryd.sizeOf74 rfl rfl ha1 (by omega) ?_
    refine Lands.v hh10 ?_
    refine OpT.loadA (cs := [.int .i64 ls[i].c, .int .i64 ls[i].p0, .int .i64 ls[i].p1, .int .i64 ls[i].p2, .int .i64 ls[i].p3]) Tryd.isAgg74 Tryd.sizeOf74 rfl hrow ?_
    refine Lands.v hh10 ?_
    intro g7 w11 e11 x11 z11 hh11
    intro w12 m12 z12 hh12
    replace m12 : Upd g7 w11 w12 := m12
    have g7n : g7 ≠ g1 ∧ g7 ≠ g2 := by
      have h1 := tx10.tb.1.lt
      have h2 : g2 < w10.heap.size := (hh10.box 1 _ rfl).lt
      omega
    have x12 : Ext w10 w12 := x11.upd m12 (by omega)
    have ty7 := z12.2 _ _ z11.2
    have tx12 := tx10.go hne (gB_ext x12) (tx10.tb.ext x12) hB hg1 hlo2
    have not7 : ∀ {w : World} {A : Option Addr} {c : Nat} {bs : List UInt8}, TX B lo g1 g2 w2 A c bs w → tyAt w g7 74 → ¬ gB lo g1 w g7 := fun h ty hk => by
      rcases hk with hk | hk
      · exact g7n.1 hk
      · exact not_byB ty (by decide) hk
    refine (number_runs g1 A10 c10 bb ls[i].c w12 tx12.tb tx12.tab hB (Nat.le_trans hlo2 tx12.mm.size) hg1 (by first | omega | (simp only [List.length_append]; omega)) hlw.1).mono ?_
    rintro _ w13 ⟨rfl, d4, A13, c13, hd4, tb', m'⟩
    have tx13 := tx12.go hne m' tb' hB hg1 hlo2
    have n7 := not7 tx12 ty7
    replace ty7 := ty7.mod m' n7
    refine Lands.to (H' := [(0, [.v (.slice A13 (bb ++ d4).length c13)]), (1, [.v (.int .u8 k), .v (.int .i64 n), .v (.string s), .v (.slice la ls.length lc), .v (.slice ta ts.length tc)]), (2, [.v (.int .i64 ls[i].c), .v (.int .i64 ls[i].p0), .v (.int .i64 ls[i].p1), .v (.int .i64 ls[i].p2), .v (.int .i64 ls[i].p3)])]) (s := .v _) rfl rfl hh12 m'.size ⟨tx13.tb.1, (hh12.box 1 _ rfl).mod m' (tx12.not2 hne), (hh12.box 2 _ rfl).mod m' n7, trivial⟩ rfl fun hh13 => ?_
    have ld4 : d4.length ≤ 22 := by rw [hd4]; exact encN_len _ hlw.1
    clear tb' m' n7
    refine vLoop_mk (σ := Nat × List UInt8 × Option Addr × Nat) (fun q => [(2, .p 0 0), (3, .p 1 0), (5, .f 34 [] [.p 0 0]), (34, .v (.slice la ls.length lc)), (35, .v (.int .i64 ls.length)), (36, .v (.int .i64 i)), (45, .a [.v (.int .i64 ls[i].p0), .v (.int .i64 ls[i].p1), .v (.int .i64 ls[i].p2), .v (.int .i64 ls[i].p3)]), (46, .v (.int .i64 q.1))])
      (fun q => [(0, [.v (.slice q.2.2.1 q.2.1.length q.2.2.2)]), (1, [.v (.int .u8 k), .v (.int .i64 n), .v (.string s), .v (.slice la ls.length lc), .v (.slice ta ts.length tc)]), (2, [.v (.int .i64 ls[i].c), .v (.int .i64 ls[i].p0), .v (.int .i64 ls[i].p1), .v (.int .i64 ls[i].p2), .v (.int .i64 ls[i].p3)])]) (fun q w' => q.1 ≤ 4 ∧ q.2.1 = bb ++ d4 ++ encPs ls[i] q.1 ∧ TX B lo g1 g2 w2 q.2.2.1 q.2.2.2 q.2.1 w' ∧ tyAt w' g7 74) (fun q => 4 - q.1) (0, bb ++ d4, A13, c13) (fun _ => ⟨rfl, rfl⟩)
      ⟨⟨rfl, rfl, rfl, rfl, rfl, rfl, rfl, rfl, trivial⟩, ⟨rfl, rfl, rfl, trivial⟩, Nat.zero_le _, by simp [encPs], tx13, ty7⟩ ?_
    clear tx13 ty7 hh13
    rintro ⟨j, b3, A14, c14⟩ w14 hh14 ⟨hj, hb3, tx14, ty7⟩
    simp only at hj hb3 tx14 hh14
    have lb3 : b3.length ≤ bb.length + 110 := by
      have := encPs_len ls[i] hlw j
      rw [hb3, List.length_append, List.length_append]
      omega
    refine And.intro (fun h6 => ?_) (fun h6 => ?_)
    · have hlt6 := of_decide_eq_true h6
      simp only at hlt6
      have hj4 : j < 4 := by omega
      have hpi : i64ok (ls[i].p j) := by
        obtain ⟨_, h0, h1, h2, h3⟩ := hlw
        unfold L.p; split <;> assumption
      refine OpT.indexArr Tryd.underlying72 Tryd.sizeOf3 Tryd.isAgg3 rfl rfl (by omega) (levp_arr hj4) ?_
      refine Lands.v hh14 ?_
      refine (number_runs g1 A14 c14 b3 (ls[i].p j) w14 tx14.tb tx14.tab hB (Nat.le_trans hlo2 tx14.mm.size) hg1 (by first | omega | (simp only [List.length_append]; omega)) hpi).mono ?_
      rintro _ w15 ⟨rfl, d5, A15, c15, hd5, tb', m'⟩
      have tx15 := tx14.go hne m' tb' hB hg1 hlo2
      have n7 := not7 tx14 ty7
      replace ty7 := ty7.mod m' n7
      refine Lands.to (H' := [(0, [.v (.slice A15 (b3 ++ d5).length c15)]), (1, [.v (.int .u8 k), .v (.int .i64 n), .v (.string s), .v (.slice la ls.length lc), .v (.slice ta ts.length tc)]), (2, [.v (.int .i64 ls[i].c), .v (.int .i64 ls[i].p0), .v (.int .i64 ls[i].p1), .v (.int .i64 ls[i].p2), .v (.int .i64 ls[i].p3)])]) (s := .v _) rfl rfl hh14 m'.size ⟨tx15.tb.1, (hh14.box 1 _ rfl).mod m' (tx14.not2 hne), (hh14.box 2 _ rfl).mod m' n7, trivial⟩ rfl fun hh15 => ?_
      have ld5 : d5.length ≤ 22 := by rw [hd5]; exact encN_len _ hpi
      clear tb' m' n7
      refine vsd (by simp only [inKind]; omega) ?_
      exact Exists.intro (j + 1, b3 ++ d5, A15, c15) ⟨by simp only; omega, ⟨rfl, rfl, rfl, rfl, rfl, rfl, rfl, rfl, trivial⟩, ⟨rfl, rfl, rfl, trivial⟩, hj4, by simp only; rw [encPs_succ, hb3, hd5, List.append_assoc], tx15, ty7⟩
    · have hge6 := of_decide_eq_false h6
      simp only at hge6
      have hj4 : j = 4 := by omega
      subst hj4
      refine vsd (by simp only [inKind]; have := hl.2; omega) ?_
      exact Exists.intro (i + 1, b3, A14, c14) ⟨by simp only; omega, ⟨rfl, rfl, rfl, rfl, rfl, rfl, trivial⟩, ⟨rfl, rfl, trivial⟩, hil, by simp only; rw [encLs_take ls i hil, hb3, hbb, hd4]; simp only [encL, List.append_assoc], tx14⟩
  · have hge := of_decide_eq_false h5
    simp only at hge
    have hil : i = ls.length := by omega
    subst hil
    rw [List.take_length] at hbb
    obtain ⟨b10, hb10⟩ : ∃ b10, b10 = bb := ⟨_, rfl⟩
    have lb10 : b10.length ≤ bs.length + 539 := by rw [hb10]; omega
    refine vLoop_mk (σ := Nat × List UInt8 × Option Addr × Nat) (fun q => [(2, .p 0 0), (3, .p 1 0), (55, .v (.slice ta ts.length tc)), (56, .v (.int .i64 ts.length)), (57, .v (.int .i64 q.1))])
      (fun q => [(0, [.v (.slice q.2.2.1 q.2.1.length q.2.2.2)]), (1, [.v (.int .u8 k), .v (.int .i64 n), .v (.string s), .v (.slice la ls.length lc), .v (.slice ta ts.length tc)])]) (fun q w' => q.1 ≤ ts.length ∧ q.2.1 = b10 ++ encTs (ts.take q.1) ∧ TX B lo g1 g2 w2 q.2.2.1 q.2.2.2 q.2.1 w') (fun q => ts.length - q.1) (0, bb, A10, c10) (fun _ => ⟨rfl, rfl⟩)
      ⟨⟨rfl, rfl, rfl, rfl, rfl, trivial⟩, ⟨rfl, rfl, trivial⟩, Nat.zero_le _, by simp only [List.take_zero]; rw [hb10]; simp [encTs], tx10⟩ ?_
    rintro ⟨i, b11, A11, c11⟩ w11 hh11 ⟨hi, hb11, tx11⟩
    simp only at hi hb11 tx11 hh11
    refine And.intro (fun h6 => ?_) (fun h6 => ?_)
    · have hlt := of_decide_eq_true h6
      simp only at hlt
      have hil : i < ts.length := by omega
      obtain ⟨a1, cx, ha1, hR1, hrow, hvx⟩ := ((hT'.ext y2).mod tx11.mm hRb).at hil
      obtain ⟨k', n', s', ls', ts', la', lc', ta', tc', ex, rfl, -⟩ := hvx.inv
      refine OpT.indexAddr Tryd.underlying22 Tryd.sizeOf36 rfl rfl ha1 (by omega) ?_
      refine Lands.v hh11 ?_
      refine OpT.loadA (cs := [.int .u8 k', .int .i64 n', .string s', .slice la' ls'.length lc', .slice ta' ts'.length tc']) Tryd.isAgg36 Tryd.sizeOf36 rfl hrow ?_
      refine Lands.v hh11 ?_
      intro g7 w12 e12 x12 z12 hh12
      intro w13 m13 z13 hh13
      replace m13 : Upd g7 w12 w13 := m13
      have g7n : g7 ≠ g1 ∧ g7 ≠ g2 := by
        have h1 := tx11.tb.1.lt
        have h2 : g2 < w11.heap.size := (hh11.box 1 _ rfl).lt
        omega
      have x13 : Ext w11 w13 := x12.upd m13 (by omega)
      have ty7 := z13.2 _ _ z12.2
      have tx13 := tx11.go hne (gB_ext x13) (tx11.tb.ext x13) hB hg1 hlo2
      have hnos := nodess_get hnode.2.2 i hil
      have hsz2 := sizes_get ts k n s ls i hil
      have hel := encTs_len (ts.take i) (nodess_take_le ts i hnode.2.2)
      refine (ih ts[i] (List.getElem_mem hil) _ A11 c11 b11 w13 R (hvx.ext x13) hR (Nat.le_trans hlo2 tx13.mm.size) tx13.tab tx13.tb.2.2 hnos (by rw [hb11, List.length_append]; omega)).mono ?_
      rintro _ w14 ⟨d6, A14, c14, hd6, rfl, o14, m14⟩
      have n7 := not_byB (lo := lo) ty7 (by decide)
      have n1 := not_byB (lo := lo) tx13.tb.2.1 (by decide)
      have n2 := not_byB (lo := lo) tx13.ty (by decide)
      have hh14 := hh13.mod m14 (fun i hi hk => by
        match i, hi with
        | 0, _ => exact n1 hk
        | 1, _ => exact n2 hk
        | 2, _ => exact n7 hk)
      refine Lands.v hh14 ?_
      intro w15 m15 z15 hh15
      replace m15 : Upd g1 w14 w15 := m15
      have tx15 : TX B lo g1 g2 w2 A14 c14 (b11 ++ d6) w15 := by
        have ty1 := tx13.tb.2.1.mod m14 n1
        exact tx13.go hne ((byB_gB m14).trans (m15.mono fun k hk => .inl hk)) ⟨hh15.box 0 _ rfl, z15.2 _ _ ty1, o14.mod m15 (own_not ty1 (by decide) o14)⟩ hB hg1 hlo2
      refine vsd (by simp only [inKind]; have := ht.2; have := ht.1; omega) ?_
      exact Exists.intro (i + 1, b11 ++ d6, A14, c14) ⟨by simp only; omega, ⟨rfl, rfl, rfl, rfl, rfl, trivial⟩, ⟨rfl, rfl, trivial⟩, hil, by simp only; rw [encTs_take ts i hil, hb11, hd6, List.append_assoc], tx15⟩
    · have hge6 := of_decide_eq_false h6
      simp only at hge6
      have hil : i = ts.length := by omega
      subst hil
      rw [List.take_length] at hb11
      have eb : b11 = bs ++ encT (.mk k n s ls ts) := by
        rw [hb11, hb10, hbb, hb9, hd1, hd2, hd3, encT]
        simp only [List.append_assoc]
      subst eb
      exact ⟨encT (.mk k n s ls ts), A11, c11, rfl, rfl, tx11.tb.2.2, (Mod.mono y2 fun _ h => h.elim : Bw.Mod (byB lo w) w w2).trans' tx11.mm fun i hi hk => by
        rcases hk with hk | ⟨h1, cs, fz, h2⟩
        · omega
        · exact ⟨h1, cs, fz, by rw [← y2.block i hi id]; exact h2⟩⟩
end Go.Proofs.YtmibjillclfogaaDoor

