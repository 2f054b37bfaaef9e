/-
  The document's cache: Put.
-/
import Derived.Test.YtmibjillclfogaaDoorC14
namespace Go.Proofs.YtmibjillclfogaaDoor
open Go Go.RowKit Go.Proofs.Bw
set_option linter.unusedVariables false
set_option linter.unusedSimpArgs false

theorem elPE : ElOk Tryd.prog 62 10 160 := ⟨⟨Tryd.t62, Tryd.t62.zero.get rfl, by kernel_rfl, rfl, rfl, rfl, rfl⟩, by omega⟩
section
variable {P : Program} {e : Env} {w : World} {K : Value → World → Prop} {d : Option Tmp} {t : TypeId} {pos : String} {af : Array Edge} {g' : Option (Nat × Bool)} {lo el sz c : Nat} {A : Option Addr} {css : List (List Value)}
theorem OpT.appendRf {x y : Operand} {st : TypeId} {bytes n m cc : Nat} {B : Option Addr} {R : Nat → Prop} {news css' : List (List Value)} {n' : Nat} (hel : ElOk P el sz bytes) (ht : P.underlying st = some (.slice el))
    (hx : evalO e x = some (.slice A n c)) (hy : evalO e y = some (.slice B m cc)) (hown : OwnR w lo el sz A c css) (hR : Rd w R sz B news) (hn : n = css.length) (hm : m = news.length) (hl : ∀ r ∈ news, r.length = sz) (h1 : ∀ u ∈ news.flatten, u.oneCell' = true) (hcss : css ++ news = css') (hn' : css'.length = n')
    (h63 : css'.length * bytes ≤ 140737488355328 ∧ css'.length ≤ 9223372036854775807) (hlo : lo ≤ w.heap.size)
    (h : ∀ w' A' c', Bw.Mod (ownOf A) w w' → OwnR w' lo el sz A' c' css' → (∀ k, ownOf A' k → ownOf A k ∨ w.heap.size ≤ k) → K (.slice A' n' c') w') :
    OpT P e w ⟨d, .call ⟨.builtin .append, #[x, y], #[st, st]⟩, t, pos, af, g'⟩ K := by
  subst hn; subst hm; subst hcss; subst hn'
  exact OpT.appendS' hel ht hx hy hown (hR.src ht hl h1 cc) rfl hl (by simpa using h63) hlo h
end
/-- what a put leaves -/
def putR (most : Nat) (x : PE) (L : List PE) : List PE :=
  if mayT x.a = true ∧ mayT x.b = true then
    let L1 := if 0 ≤ fI x.a x.b L 0 then L.take (fI x.a x.b L 0).toNat ++ L.drop ((fI x.a x.b L 0).toNat + 1) else L
    if most < (L1 ++ [x]).length then (L1 ++ [x]).drop 1 else L1 ++ [x]
  else L
theorem fI_lt (a b : T) : ∀ (L : List PE) (i : Nat), fI a b L i = -1 ∨ ∃ k, k < L.length ∧ fI a b L i = ((i + k : Nat) : Int)
  | [], i => .inl rfl
  | e :: r, i => by
    rw [fI]
    split
    · exact .inr ⟨0, by simp, by simp⟩
    · rcases fI_lt a b r (i + 1) with h | ⟨k, h1, h2⟩
      · exact .inl h
      · exact .inr ⟨k + 1, by simpa using h1, by rw [h2]; congr 1; omega⟩
theorem row_len {w : World} {R : Nat → Prop} {e : PE} (h : e.ok w R) : e.row.length = 10 := by
  unfold PE.row; rw [List.length_append, h.1.length, h.2.length]
theorem row_one {w : World} {R : Nat → Prop} {e : PE} (h : e.ok w R) : ∀ u ∈ e.row, u.oneCell' = true := by
  obtain ⟨h1, h2⟩ := h
  obtain ⟨ca, cb, a, b⟩ := e
  obtain ⟨k, n, s, ls, ts, la, lc, ta, tc, ea, rfl, -⟩ := h1.inv
  obtain ⟨k', n', s', ls', ts', la', lc', ta', tc', eb, rfl, -⟩ := h2.inv
  intro u hu
  simp only [PE.row, List.cons_append, List.nil_append, List.mem_cons, List.not_mem_nil, or_false] at hu
  rcases hu with rfl | rfl | rfl | rfl | rfl | rfl | rfl | rfl | rfl | rfl <;> rfl
theorem peR_len {w : World} {R : Nat → Prop} {L : List PE} (h : ∀ e ∈ L, e.ok w R) : ∀ r ∈ peR L, r.length = 10 := by
  intro r hr
  obtain ⟨e, he, rfl⟩ := List.mem_map.1 hr
  exact row_len (h e he)
theorem peR_one {w : World} {R : Nat → Prop} {L : List PE} (h : ∀ e ∈ L, e.ok w R) : ∀ u ∈ (peR L).flatten, u.oneCell' = true := by
  intro u hu
  obtain ⟨r, hr, hur⟩ := List.mem_flatten.1 hu
  obtain ⟨e, he, rfl⟩ := List.mem_map.1 hr
  exact row_one (h e he) u hur
theorem peR_take (L : List PE) (n : Nat) : (peR L).take n = peR (L.take n) := by simp [peR]
theorem peR_drop (L : List PE) (n : Nat) : (peR L).drop n = peR (L.drop n) := by simp [peR]
theorem peR_append (L M : List PE) : peR (L ++ M) = peR L ++ peR M := by simp [peR]
set_option maxRecDepth 20000 in
set_option maxHeartbeats 2000000 in
theorem rPut_runs {lo : Nat} {R : Nat → Prop} (g most : Nat) (L : List PE) (A : Option Addr) (c : Nat) (a b : T) (ca cb : List Value) (w : World) (h : RAt w lo R g most L A c) (hva : VT w R ca a) (hvb : VT w R cb b) (hsz : L.length ≤ 1000000) :
    Runs Tryd.prog 13 #[.pointer (some ⟨g, 0, none⟩), .agg ca.toArray, .agg cb.toArray] w fun v w' => v = .tuple #[] ∧ ∃ A' c', RAt w' lo R g most (putR most ⟨ca, cb, a, b⟩ L) A' c' ∧
      Bw.Mod (fun k => k = g ∨ ownOf A k) w w' ∧ ∀ k, ownOf A' k → ownOf A k ∨ w.heap.size ≤ k := by
  have hva0 := hva
  have hvb0 := hvb
  obtain ⟨k, n, s, ls, ts, la, lc, ta, tc, ea, rfl, -⟩ := hva.inv
  obtain ⟨k', n', s', ls', ts', la', lc', ta', tc', eb, rfl, -⟩ := hvb.inv
  generalize hxe : (⟨[.int .u8 k, .int .i64 n, .string s, .slice la ls.length lc, .slice ta ts.length tc], [.int .u8 k', .int .i64 n', .string s', .slice la' ls'.length lc', .slice ta' ts'.length tc'], a, b⟩ : PE) = xe
  have hxr : xe.row = [.int .u8 k, .int .i64 n, .string s, .slice la ls.length lc, .slice ta ts.length tc, .int .u8 k', .int .i64 n', .string s', .slice la' ls'.length lc', .slice ta' ts'.length tc'] := by rw [← hxe]; rfl
  have hxa : xe.a = a ∧ xe.b = b := by rw [← hxe]; exact ⟨rfl, rfl⟩
  have hxo : xe.ok w R := by rw [← hxe]; exact ⟨hva0, hvb0⟩
  have hAw : ∀ k, ownOf A k → lo ≤ k ∧ k < w.heap.size := fun k ⟨p, hp, hk⟩ => by rw [hk]; exact h.own.block hp
  have hgw : g < w.heap.size := h.box.lt
  have hlow : lo ≤ w.heap.size := by have := h.lo_; omega
  have hh := Holds.one (g := g) (cs := [.v (.int .i64 most), .v (.slice A L.length c)]) h.box rfl
  refine Runs.of_vc (ρ := [g]) cx_ok [0, 1, 2, 4, 5, 6, 7, 15, 21, 63] [.p 0 0, .a [.v (.int .u8 k), .v (.int .i64 n), .v (.string s), .v (.slice la ls.length lc), .v (.slice ta ts.length tc)], .a [.v (.int .u8 k'), .v (.int .i64 n'), .v (.string s'), .v (.slice la' ls'.length lc'), .v (.slice ta' ts'.length tc')]] Tryd.func13 rfl rfl rfl hh ?_
  intro g1 w1 e1 x1 z1 hh1
  intro g2 w2 e2 x2 z2 hh2
  have y2 := x1.trans x2
  refine vcS (rMay_runs a _ w2 R (hva0.ext y2)) hh2 fun w3 x3 hh3 => ?_
  refine Or.inl (Exists.intro (.bool (mayT b)) (And.intro (fun _ => rMay_runs b _ w3 R (hvb0.ext (y2.trans x3))) (fun w4 x4 hh4 => ?_)))
  have y4 := y2.trans (x3.trans x4)
  refine And.intro (fun hc => ?_) (fun hc => ?_)
  · have hn : ¬ (mayT xe.a = true ∧ mayT xe.b = true) := by
      rw [hxa.1, hxa.2]
      rintro ⟨h1, h2⟩; rw [h1, h2] at hc; simp [sel] at hc
    refine ⟨rfl, A, c, ?_, y4.mono fun _ h => h.elim, fun k hk => .inl hk⟩
    unfold putR; rw [if_neg hn]; exact h.ext y4
  have hy : mayT xe.a = true ∧ mayT xe.b = true := by
    rw [hxa.1, hxa.2]
    cases h1 : mayT a <;> cases h2 : mayT b <;> first | exact ⟨rfl, rfl⟩ | (rw [h1, h2] at hc; simp [sel] at hc)
  have eP : putR most xe L = (let L1 := if 0 ≤ fI a b L 0 then L.take (fI a b L 0).toNat ++ L.drop ((fI a b L 0).toNat + 1) else L
    if most < (L1 ++ [xe]).length then (L1 ++ [xe]).drop 1 else L1 ++ [xe]) := by unfold putR; rw [if_pos hy, hxa.1, hxa.2]
  rw [eP]
  clear eP hc
  have cF := find_runs g most L A c a b _ _ w4 (h.ext y4) (hva0.ext y4) (hvb0.ext y4) hsz
  have hfl := fI_lt a b L 0
  revert cF hfl
  generalize fI a b L 0 = fi
  intro cF hfl
  refine vcS cF hh4 fun w5 x5 hh5 => ?_
  have y5 := y4.trans x5
  have h5 := h.ext y5
  have g12 : g1 = w.heap.size ∧ g2 = w1.heap.size ∧ w1.heap.size = w.heap.size + 1 ∧ w2.heap.size = w1.heap.size + 1 ∧ w2.heap.size ≤ w5.heap.size := ⟨e1, e2, z1.1, z2.1, by have := x3.size; have := x4.size; have := x5.size; omega⟩
  refine And.intro (fun hf => ?_) (fun hf => ?_)
  · obtain ⟨at_, hat, rfl⟩ : ∃ at_ : Nat, at_ < L.length ∧ fi = (at_ : Int) := by
      have h0 := of_decide_eq_true hf
      rcases hfl with h1 | ⟨q, h1, h2⟩
      · omega
      · exact ⟨q, h1, by rw [h2]; congr 1; omega⟩
    clear hf hfl cF
    rw [show (if (0 : Int) ≤ (at_ : Int) then L.take (at_ : Int).toNat ++ L.drop ((at_ : Int).toNat + 1) else L) = L.take at_ ++ L.drop (at_ + 1) by rw [if_pos (by omega), Int.toNat_natCast]]
    refine OpT.sliceR (j := (at_ : Int)) (i := 0) (m := at_) Tryd.underlying31 Tryd.sizeOf62 rfl rfl rfl h5.own.rd h5.own.le.1 (by have := h5.own.le; rw [peR_length] at this; omega) (by omega) fun A6 r6 => ?_
    refine Lands.v hh5 ?_
    have r6' : Rd w5 (fun k => lo ≤ k ∧ k < w5.heap.size) 10 A6 (peR L) := by simpa using r6
    refine OpT.appendRf elPE Tryd.underlying31 rfl rfl (OwnR.nil w5 lo _ _) (r6'.take at_) rfl (by rw [peR_take, peR_length, List.length_take]; omega) (fun r hr => peR_len h5.oks r (List.mem_of_mem_take hr)) (by rw [peR_take]; exact peR_one fun e he => h5.oks e (List.mem_of_mem_take he)) (css' := peR (L.take at_)) (by rw [peR_take]; rfl) (n' := (L.take at_).length) (peR_length _) (by rw [peR_length, List.length_take]; omega) (by omega) fun w7 A7 c7 m7 o7 f7 => ?_
    have x7 : Ext w5 w7 := Mod.mono m7 fun k ⟨p, hp, _⟩ => by cases hp
    have hh7 := hh5.ext x7
    refine Lands.v hh7 ?_
    have f7' : ∀ k, ownOf A7 k → w5.heap.size ≤ k := fun k hk => (f7 k hk).elim (fun ⟨p, hp, _⟩ => by cases hp) id
    have h7 := h5.ext x7
    refine vsd (by simp only [inKind]; omega) ?_
    refine OpT.sliceR (i := ((at_ : Int) + 1)) (j := (L.length : Int)) (m := (L.drop (at_ + 1)).length) Tryd.underlying31 Tryd.sizeOf62 rfl rfl rfl h7.own.rd h7.own.le.1 (by have := h7.own.le; rw [peR_length] at this; omega) (by rw [List.length_drop]; omega) fun A8 r8 => ?_
    refine Lands.v hh7 ?_
    rw [show ((at_ : Int) + 1).toNat = at_ + 1 by omega, peR_drop] at r8
    refine OpT.appendRf elPE Tryd.underlying31 rfl rfl o7 r8 (by rw [peR_length]) (by rw [peR_length]) (peR_len fun e he => h7.oks e (List.mem_of_mem_drop he)) (peR_one fun e he => h7.oks e (List.mem_of_mem_drop he)) (css' := peR (L.take at_ ++ L.drop (at_ + 1))) (peR_append _ _).symm (n' := (L.take at_ ++ L.drop (at_ + 1)).length) (peR_length _) (by rw [peR_length, List.length_append, List.length_take, List.length_drop]; omega) (by have := x7.size; omega) fun w9 A9 c9 m9 o9 f9 => ?_
    have x59 : Ext w5 w9 := Ext.own x7 m9 f7'
    have f9' : ∀ k, ownOf A9 k → w5.heap.size ≤ k := fun k hk => (f9 k hk).elim (f7' k) fun h => by have := x7.size; omega
    have hh9 := hh5.ext x59
    refine Lands.v hh9 ?_
    intro w10 m10 z10 hh10
    replace m10 : Upd g w9 w10 := m10
    have hlL : (L.take at_ ++ L.drop (at_ + 1)).length ≤ 1000000 := by rw [List.length_append, List.length_take, List.length_drop]; omega
    have okL : ∀ e ∈ L.take at_ ++ L.drop (at_ + 1), e.ok w R := fun e he => (List.mem_append.1 he).elim (fun he => h.oks e (List.mem_of_mem_take he)) fun he => h.oks e (List.mem_of_mem_drop he)
    revert o9 hh10 hlL okL
    generalize L.take at_ ++ L.drop (at_ + 1) = L1
    intro o9 hh10 hlL okL
    have oS := o9.mod m10 (fun p hp e => by have := f9' _ ⟨p, hp, e.symm⟩; omega)
    have mmS : Bw.Mod (fun k => k = g ∨ ownOf A k) w w10 := ((Mod.mono y5 fun _ h => h.elim).trans (Mod.mono x59 fun _ h => h.elim)).trans (m10.mono fun k hk => .inl hk)
    have fA1 : ∀ k, ownOf A9 k → ownOf A k ∨ w.heap.size ≤ k := fun k hk => .inr (by have := f9' k hk; omega)
    have hA1 : ¬ ownOf A9 g ∧ ¬ ownOf A9 g1 ∧ ¬ ownOf A9 g2 := ⟨fun h => by have := f9' _ h; omega, fun h => by have := f9' _ h; omega, fun h => by have := f9' _ h; omega⟩
    have hA1a : ∀ i, i < [g, g1, g2].length → ¬ ownOf A9 (adr [g, g1, g2] i) := fun i hi h => by
      match i, hi with
      | 0, _ => exact hA1.1 h
      | 1, _ => exact hA1.2.1 h
      | 2, _ => exact hA1.2.2 h
    have sS : w.heap.size ≤ w10.heap.size := mmS.size
    simp only
    refine vDrwS_mk (ownOf A9) [8, 9, 12] [0, 1, 2, 3, 4, 5, 6, 7, 8, 9, 10, 11, 12] rfl fun w11 x11 hh11 => ?_
    refine Exists.intro (.slice A9 L1.length c9) (And.intro (fun w' x hh => OpT.loadB (b := g) (i := 1) Tryd.isAgg31 rfl ((hh11.box 0 _ rfl).mod x hA1.1) rfl ⟨rfl, rfl⟩) ?_)
    refine Exists.intro (.agg #[.int .u8 k, .int .i64 n, .string s, .slice la ls.length lc, .slice ta ts.length tc]) (And.intro (fun w' x hh => OpT.loadAB (b := g1) (vs := [.int .u8 k, .int .i64 n, .string s, .slice la ls.length lc, .slice ta ts.length tc]) Tryd.isAgg36 Tryd.sizeOf36 rfl ((hh11.box 1 _ rfl).mod x hA1.2.1) rfl ⟨rfl, rfl⟩) ?_)
    refine Exists.intro (.agg #[.int .u8 k', .int .i64 n', .string s', .slice la' ls'.length lc', .slice ta' ts'.length tc']) (And.intro (fun w' x hh => OpT.loadAB (b := g2) (vs := [.int .u8 k', .int .i64 n', .string s', .slice la' ls'.length lc', .slice ta' ts'.length tc']) Tryd.isAgg36 Tryd.sizeOf36 rfl ((hh11.box 2 _ rfl).mod x hA1.2.2) rfl ⟨rfl, rfl⟩) ?_)
    refine OpT.buildSlice (cs := #[.int .u8 k, .int .i64 n, .string s, .slice la ls.length lc, .slice ta ts.length tc, .int .u8 k', .int .i64 n', .string s', .slice la' ls'.length lc', .slice ta' ts'.length tc']) (.cons rfl .nil) Tryd.underlying31 Tryd.sizeOf62 Tryd.zeroValue62 rfl (by kernel_rfl) fun w12 g12' e12 x12 z12 b12 => ?_
    refine Lands.v (hh11.ext x12) ?_
    refine And.intro (Mod.mono x12 fun _ h => h.elim) ?_
    have o12 := (oS.ext x11).ext x12
    have okW : ∀ e ∈ L1 ++ [xe], e.ok w R := fun e he => (List.mem_append.1 he).elim (okL e) fun he => by rw [List.mem_singleton.1 he]; exact hxo
    have okF : ∀ {w' : World}, Bw.Mod (fun k => k = g ∨ ownOf A k) w w' → ∀ e : PE, e.ok w R → e.ok w' R := fun hm e he => ⟨he.1.mod hm fun k hk hs => by
        have h1 := h.low k hk
        have h2 := h.lo_
        rcases hs with rfl | hs
        · omega
        · have := (hAw k hs).1; omega, he.2.mod hm fun k hk hs => by
        have h1 := h.low k hk
        have h2 := h.lo_
        rcases hs with rfl | hs
        · omega
        · have := (hAw k hs).1; omega⟩
    have hl13 : (L1 ++ [xe]).length ≤ 1000001 := by rw [List.length_append, List.length_cons, List.length_nil]; omega
    refine OpT.append1' elPE Tryd.underlying31 rfl rfl o12 b12 (by rw [peR_length]) rfl rfl (css' := peR (L1 ++ [xe])) (by rw [peR_append]; simp [peR, hxr]) (n' := (L1 ++ [xe]).length) (peR_length _) (by rw [peR_length]; omega) (by have := x11.size; have := x12.size; omega) fun w13 A13 c13 m13 o13 f13 => ?_
    have hh13 := (hh11.ext x12).mod m13 hA1a
    refine Lands.v hh13 ?_
    refine And.intro m13 ?_
    intro w14 m14 z14 hh14
    replace m14 : Upd g w13 w14 := m14
    have s13 : w.heap.size ≤ w12.heap.size := by have := x11.size; have := x12.size; omega
    have f13' : ∀ k, ownOf A13 k → ownOf A k ∨ w.heap.size ≤ k := fun k hk => (f13 k hk).elim (fA1 k) fun h => .inr (by omega)
    have hA13 : ¬ ownOf A13 g := fun hk => (f13' _ hk).elim (fun hk => h.ne hk) fun h => by omega
    have mm14 : Bw.Mod (fun k => k = g ∨ ownOf A k) w w14 := (((mmS.trans (Mod.mono x11 fun _ h => h.elim)).trans (Mod.mono x12 fun _ h => h.elim)).trans' m13 (fun k hk hs => (fA1 k hs).elim .inr fun h => by omega)).trans (m14.mono fun k hk => .inl hk)
    have o14 := o13.mod m14 (fun p hp e => hA13 ⟨p, hp, e.symm⟩)
    refine vDrw_mk [] [0, 1, 2, 3, 4, 5, 6, 7, 8, 9] rfl fun w15 x15 hh15 => ?_
    have mm15 := mm14.trans (Mod.mono x15 fun _ h => h.elim)
    have o15 := o14.ext x15
    refine And.intro (fun hm => ?_) (fun hm => ?_)
    · have hm' : most < (L1 ++ [xe]).length := by have := of_decide_eq_true hm; omega
      rw [if_pos hm']
      clear hm
      refine OpT.buildOwn (cs := #[]) (css := []) .nil Tryd.underlying31 Tryd.sizeOf62 Tryd.zeroValue62 rfl (by kernel_rfl) rfl (fun r hr => by cases hr) rfl rfl fun w16 g16 e16 x16 z16 o16 => ?_
      have hh16 := hh15.ext x16
      refine Lands.v hh16 ?_
      refine OpT.sliceR (i := 1) (j := ((L1 ++ [xe]).length : Int)) (m := ((L1 ++ [xe]).drop 1).length) Tryd.underlying31 Tryd.sizeOf62 rfl rfl rfl (o15.ext x16).rd (o15.ext x16).le.1 (by have := o15.le; rw [peR_length] at this; omega) (by rw [List.length_drop]; omega) fun A17 r17 => ?_
      refine Lands.v hh16 ?_
      rw [show (1 : Int).toNat = 1 from rfl, peR_drop] at r17
      have mm16 := mm15.trans (Mod.mono x16 fun _ h => h.elim)
      have okD : ∀ e ∈ (L1 ++ [xe]).drop 1, e.ok w R := fun e he => okW e (List.mem_of_mem_drop he)
      have s15 : w.heap.size ≤ w15.heap.size := mm15.size
      refine OpT.appendRf elPE Tryd.underlying31 rfl rfl (o16.lower (by omega : lo ≤ w15.heap.size)) r17 rfl (by rw [peR_length]) (peR_len okD) (peR_one okD) (css' := peR ((L1 ++ [xe]).drop 1)) (by simp) (n' := ((L1 ++ [xe]).drop 1).length) (peR_length _) (by rw [peR_length, List.length_drop]; omega) (by have := x16.size; omega) fun w18 A18 c18 m18 o18 f18 => ?_
      have f18' : ∀ k, ownOf A18 k → w.heap.size ≤ k := fun k hk => (f18 k hk).elim (fun ⟨p, hp, hk⟩ => by injection hp with hp; rw [hk, ← hp]; show w.heap.size ≤ g16; omega) fun h => by have := x16.size; omega
      have x18 : Ext w15 w18 := Ext.own x16 m18 fun k ⟨p, hp, hk⟩ => by injection hp with hp; rw [hk, ← hp]; show w15.heap.size ≤ g16; omega
      have hh18 := hh15.ext x18
      refine Lands.v hh18 ?_
      intro w19 m19 z19 hh19
      replace m19 : Upd g w18 w19 := m19
      have mm19 := (mm15.trans (Mod.mono x18 fun _ h => h.elim)).trans (m19.mono fun k hk => .inl hk)
      refine ⟨rfl, A18, c18, ⟨hh19.box 0 _ rfl, o18.mod m19 (fun p hp e => by have := f18' _ ⟨p, hp, e.symm⟩; omega), fun hk => by have := f18' _ hk; omega, h.lo_, fun e he => okF mm19 e (okD e he), h.low⟩, mm19, fun k hk => .inr (f18' k hk)⟩
    · have hm' : ¬ most < (L1 ++ [xe]).length := by have := of_decide_eq_false hm; omega
      rw [if_neg hm']
      exact ⟨rfl, A13, c13, ⟨hh15.box 0 _ rfl, o15, hA13, h.lo_, fun e he => okF mm15 e (okW e he), h.low⟩, mm15, f13'⟩
  · have hneg : ¬ 0 ≤ fi := of_decide_eq_false hf
    clear hf hfl cF
    rw [show (if (0 : Int) ≤ fi then L.take fi.toNat ++ L.drop (fi.toNat + 1) else L) = L by rw [if_neg hneg]]
    have hlL := hsz
    have okL := h.oks
    have oS := h5.own
    have hh10 := hh5
    have mmS : Bw.Mod (fun k => k = g ∨ ownOf A k) w w5 := Mod.mono y5 fun _ h => h.elim
    have fA1 : ∀ k, ownOf A k → ownOf A k ∨ w.heap.size ≤ k := fun k hk => .inl hk
    have hA1 : ¬ ownOf A g ∧ ¬ ownOf A g1 ∧ ¬ ownOf A g2 := ⟨h.ne, fun h => by have := (hAw _ h).2; omega, fun h => by have := (hAw _ h).2; omega⟩
    have hA1a : ∀ i, i < [g, g1, g2].length → ¬ ownOf A (adr [g, g1, g2] i) := fun i hi h => by
      match i, hi with
      | 0, _ => exact hA1.1 h
      | 1, _ => exact hA1.2.1 h
      | 2, _ => exact hA1.2.2 h
    have sS : w.heap.size ≤ w5.heap.size := mmS.size
    simp only
    refine vDrwS_mk (ownOf A) [8, 9, 12] [0, 1, 2, 3, 4, 5, 6, 7, 8, 9, 10, 11, 12] rfl fun w11 x11 hh11 => ?_
    refine Exists.intro (.slice A L.length c) (And.intro (fun w' x hh => OpT.loadB (b := g) (i := 1) Tryd.isAgg31 rfl ((hh11.box 0 _ rfl).mod x hA1.1) rfl ⟨rfl, rfl⟩) ?_)
    refine Exists.intro (.agg #[.int .u8 k, .int .i64 n, .string s, .slice la ls.length lc, .slice ta ts.length tc]) (And.intro (fun w' x hh => OpT.loadAB (b := g1) (vs := [.int .u8 k, .int .i64 n, .string s, .slice la ls.length lc, .slice ta ts.length tc]) Tryd.isAgg36 Tryd.sizeOf36 rfl ((hh11.box 1 _ rfl).mod x hA1.2.1) rfl ⟨rfl, rfl⟩) ?_)
    refine Exists.intro (.agg #[.int .u8 k', .int .i64 n', .string s', .slice la' ls'.length lc', .slice ta' ts'.length tc']) (And.intro (fun w' x hh => OpT.loadAB (b := g2) (vs := [.int .u8 k', .int .i64 n', .string s', .slice la' ls'.length lc', .slice ta' ts'.length tc']) Tryd.isAgg36 Tryd.sizeOf36 rfl ((hh11.box 2 _ rfl).mod x hA1.2.2) rfl ⟨rfl, rfl⟩) ?_)
    refine OpT.buildSlice (cs := #[.int .u8 k, .int .i64 n, .string s, .slice la ls.length lc, .slice ta ts.length tc, .int .u8 k', .int .i64 n', .string s', .slice la' ls'.length lc', .slice ta' ts'.length tc']) (.cons rfl .nil) Tryd.underlying31 Tryd.sizeOf62 Tryd.zeroValue62 rfl (by kernel_rfl) fun w12 g12' e12 x12 z12 b12 => ?_
    refine Lands.v (hh11.ext x12) ?_
    refine And.intro (Mod.mono x12 fun _ h => h.elim) ?_
    have o12 := (oS.ext x11).ext x12
    have okW : ∀ e ∈ L ++ [xe], e.ok w R := fun e he => (List.mem_append.1 he).elim (okL e) fun he => by rw [List.mem_singleton.1 he]; exact hxo
    have okF : ∀ {w' : World}, Bw.Mod (fun k => k = g ∨ ownOf A k) w w' → ∀ e : PE, e.ok w R → e.ok w' R := fun hm e he => ⟨he.1.mod hm fun k hk hs => by
        have h1 := h.low k hk
        have h2 := h.lo_
        rcases hs with rfl | hs
        · omega
        · have := (hAw k hs).1; omega, he.2.mod hm fun k hk hs => by
        have h1 := h.low k hk
        have h2 := h.lo_
        rcases hs with rfl | hs
        · omega
        · have := (hAw k hs).1; omega⟩
    have hl13 : (L ++ [xe]).length ≤ 1000001 := by rw [List.length_append, List.length_cons, List.length_nil]; omega
    refine OpT.append1' elPE Tryd.underlying31 rfl rfl o12 b12 (by rw [peR_length]) rfl rfl (css' := peR (L ++ [xe])) (by rw [peR_append]; simp [peR, hxr]) (n' := (L ++ [xe]).length) (peR_length _) (by rw [peR_length]; omega) (by have := x11.size; have := x12.size; omega) fun w13 A13 c13 m13 o13 f13 => ?_
    have hh13 := (hh11.ext x12).mod m13 hA1a
    refine Lands.v hh13 ?_
    refine And.intro m13 ?_
    intro w14 m14 z14 hh14
    replace m14 : Upd g w13 w14 := m14
    have s13 : w.heap.size ≤ w12.heap.size := by have := x11.size; have := x12.size; omega
    have f13' : ∀ k, ownOf A13 k → ownOf A k ∨ w.heap.size ≤ k := fun k hk => (f13 k hk).elim (fA1 k) fun h => .inr (by omega)
    have hA13 : ¬ ownOf A13 g := fun hk => (f13' _ hk).elim (fun hk => h.ne hk) fun h => by omega
    have mm14 : Bw.Mod (fun k => k = g ∨ ownOf A k) w w14 := (((mmS.trans (Mod.mono x11 fun _ h => h.elim)).trans (Mod.mono x12 fun _ h => h.elim)).trans' m13 (fun k hk hs => (fA1 k hs).elim .inr fun h => by omega)).trans (m14.mono fun k hk => .inl hk)
    have o14 := o13.mod m14 (fun p hp e => hA13 ⟨p, hp, e.symm⟩)
    refine vDrw_mk [] [0, 1, 2, 3, 4, 5, 6, 7, 8, 9] rfl fun w15 x15 hh15 => ?_
    have mm15 := mm14.trans (Mod.mono x15 fun _ h => h.elim)
    have o15 := o14.ext x15
    refine And.intro (fun hm => ?_) (fun hm => ?_)
    · have hm' : most < (L ++ [xe]).length := by have := of_decide_eq_true hm; omega
      rw [if_pos hm']
      clear hm
      refine OpT.buildOwn (cs := #[]) (css := []) .nil Tryd.underlying31 Tryd.sizeOf62 Tryd.zeroValue62 rfl (by kernel_rfl) rfl (fun r hr => by cases hr) rfl rfl fun w16 g16 e16 x16 z16 o16 => ?_
      have hh16 := hh15.ext x16
      refine Lands.v hh16 ?_
      refine OpT.sliceR (i := 1) (j := ((L ++ [xe]).length : Int)) (m := ((L ++ [xe]).drop 1).length) Tryd.underlying31 Tryd.sizeOf62 rfl rfl rfl (o15.ext x16).rd (o15.ext x16).le.1 (by have := o15.le; rw [peR_length] at this; omega) (by rw [List.length_drop]; omega) fun A17 r17 => ?_
      refine Lands.v hh16 ?_
      rw [show (1 : Int).toNat = 1 from rfl, peR_drop] at r17
      have mm16 := mm15.trans (Mod.mono x16 fun _ h => h.elim)
      have okD : ∀ e ∈ (L ++ [xe]).drop 1, e.ok w R := fun e he => okW e (List.mem_of_mem_drop he)
      have s15 : w.heap.size ≤ w15.heap.size := mm15.size
      refine OpT.appendRf elPE Tryd.underlying31 rfl rfl (o16.lower (by omega : lo ≤ w15.heap.size)) r17 rfl (by rw [peR_length]) (peR_len okD) (peR_one okD) (css' := peR ((L ++ [xe]).drop 1)) (by simp) (n' := ((L ++ [xe]).drop 1).length) (peR_length _) (by rw [peR_length, List.length_drop]; omega) (by have := x16.size; omega) fun w18 A18 c18 m18 o18 f18 => ?_
      have f18' : ∀ k, ownOf A18 k → w.heap.size ≤ k := fun k hk => (f18 k hk).elim (fun ⟨p, hp, hk⟩ => by injection hp with hp; rw [hk, ← hp]; show w.heap.size ≤ g16; omega) fun h => by have := x16.size; omega
      have x18 : Ext w15 w18 := Ext.own x16 m18 fun k ⟨p, hp, hk⟩ => by injection hp with hp; rw [hk, ← hp]; show w15.heap.size ≤ g16; omega
      have hh18 := hh15.ext x18
      refine Lands.v hh18 ?_
      intro w19 m19 z19 hh19
      replace m19 : Upd g w18 w19 := m19
      have mm19 := (mm15.trans (Mod.mono x18 fun _ h => h.elim)).trans (m19.mono fun k hk => .inl hk)
      refine ⟨rfl, A18, c18, ⟨hh19.box 0 _ rfl, o18.mod m19 (fun p hp e => by have := f18' _ ⟨p, hp, e.symm⟩; omega), fun hk => by have := f18' _ hk; omega, h.lo_, fun e he => okF mm19 e (okD e he), h.low⟩, mm19, fun k hk => .inr (f18' k hk)⟩
    · have hm' : ¬ most < (L ++ [xe]).length := by have := of_decide_eq_false hm; omega
      rw [if_neg hm']
      exact ⟨rfl, A13, c13, ⟨hh15.box 0 _ rfl, o15, hA13, h.lo_, fun e he => okF mm15 e (okW e he), h.low⟩, mm15, f13'⟩
end Go.Proofs.YtmibjillclfogaaDoor

