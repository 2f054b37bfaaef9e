/-
  What a name uses.
-/
import Derived.Test.YtfljbnhhkdaobaaGreatC6
import Derived.Test.YtfljbnhhkdaobaaGreatA8
import Derived.Test.YtfljbnhhkdaobaaGreatA7
namespace Go.Proofs.YtfljbnhhkdaobaaGreat
open Go Go.RowKit Go.Proofs.Bw
set_option linter.unusedVariables false
set_option linter.unusedSimpArgs false
def EnvV (w : World) (p : Option Addr) (L : List Inf) : Prop := (p = none ∧ L = []) ∨ ∃ R lo e m A c, p = some ⟨e, 0, none⟩ ∧ EA w R lo e m A c L
theorem EnvV.ext {w w' : World} {p : Option Addr} {L : List Inf} (h : EnvV w p L) (hx : Ext w w') : EnvV w' p L := by
  rcases h with h | ⟨R, lo, e, m, A, c, h1, h2⟩
  · exact .inl h
  · exact .inr ⟨R, lo, e, m, A, c, h1, EA.ext h2 hx⟩
theorem EnvV.few {w : World} {p : Option Addr} {L : List Inf} (h : EnvV w p L) : L.length ≤ 4096 := by
  rcases h with ⟨_, rfl⟩ | ⟨R, lo, e, m, A, c, h1, h2⟩
  · simp
  · exact h2.few
theorem EnvV.rls {w : World} {p : Option Addr} {L : List Inf} (h : EnvV w p L) (s : ByteArray) : (getI L s).rules.length ≤ 1000 := by
  rcases h with ⟨_, rfl⟩ | ⟨R, lo, e, m, A, c, h1, h2⟩
  · exact (by decide : noI.rules.length ≤ 1000)
  · exact getI_rls h2 s
theorem Find_v {w0 : World} (p : Option Addr) (L : List Inf) (s : ByteArray) (w : World) (h : EnvV w0 p L) (h0 : Ext w0 w) :
    Runs Tryz.prog 16 #[.pointer p, .string s] w fun v w' => Ext w w' ∧ ∃ cs : List Value, v = .tuple #[.agg cs.toArray, .bool (findI L s).isSome] ∧ VI w' (fun k => k < w0.heap.size ∨ (w.heap.size ≤ k ∧ k < w'.heap.size)) cs (getI L s) := by
  rcases h with ⟨rfl, rfl⟩ | ⟨R, lo, e, m, A, c, rfl, h2⟩
  · refine (FindN_runs s w).mono ?_
    rintro _ w' ⟨rfl, x⟩
    exact ⟨x, noIc, rfl, noI_rep _ _⟩
  · refine (Find_runs e m A c L s w (EA.ext h2 h0)).mono ?_
    rintro _ w' ⟨x, cs, rfl, hv⟩
    exact ⟨x, cs, rfl, encInf.mono hv fun k hk => hk.imp (fun hk => (h2.far k hk).2) id⟩
theorem List_v (p : Option Addr) (L : List Inf) (w : World) (h : EnvV w p L) :
    Runs Tryz.prog 15 #[.pointer p] w fun v w' => Ext w w' ∧ ∃ A' c', v = .slice A' L.length c' ∧ OwnE encS w' w.heap.size 9 (fun _ => False) A' c' (L.map (·.name)) := by
  rcases h with ⟨rfl, rfl⟩ | ⟨R, lo, e, m, A, c, rfl, h2⟩
  · refine (ListN_runs w).mono ?_
    rintro _ w' ⟨rfl, x⟩
    exact ⟨x, none, 0, rfl, OwnE.nil _ _ _ _ _⟩
  · exact List_runs e m A c L w h2
def lookB (op : Bool) (x : Inf) : Bool := x.kind == 2 || (x.kind == 3 && !op)
def blkL (L : List Inf) (x : Inf) : List ByteArray := x.block :: (L.map (·.name)).filter fun n => decide ((getI L n).block = x.block)
def useN (L : List Inf) (op : Bool) (x : Inf) : List ByteArray :=
  nms x.ty ++ (if lookB op x then nms x.val else []) ++ x.rules.flatMap (fun r => nms r.b) ++ (if x.block = noS then [] else blkL L x)
def usesL (L : List Inf) (op : Bool) (s : ByteArray) : List ByteArray := match findI L s with
  | none => []
  | some x => (useN L op x).filter fun q => decide (q ≠ s)
def OMl (w : World) (b nn : Nat) (l : List ByteArray) : Prop := OM w b nn (fun q => q ∈ l)
theorem OMl.app {w : World} {b nn : Nat} {l l2 l3 : List ByteArray} (h : OM w b nn (fun q => q ∈ l ∨ q ∈ l2)) (e : l ++ l2 = l3) : OMl w b nn l3 := h.congr fun q => by rw [← e, List.mem_append]
def UQ (w : World) (b k : Nat) (l : List ByteArray) (w' : World) : Prop := Bw.Mod (fun k => k = b) w w' ∧ ∃ n, n ≤ k ∧ OMl w' b n l
theorem UQ.go {w w1 w2 : World} {b k k' : Nat} {l l' l2 : List ByteArray} (h : UQ w b k l w1) (hm : Bw.Mod (fun k => k = b) w1 w2) (h2 : ∃ n, n ≤ k' ∧ OM w2 b n (fun q => q ∈ l ∨ q ∈ l2)) (e : l ++ l2 = l') : UQ w b k' l' w2 := by
  obtain ⟨n, hn, ho⟩ := h2
  exact ⟨h.1.trans hm, n, hn, OMl.app ho e⟩
theorem noS_ne {x : ByteArray} (h : (!decide (x = ⟨#[]⟩)) = true) : ¬ x = (⟨#[]⟩ : ByteArray) := by simpa using h
theorem noS_eq {x : ByteArray} (h : (!decide (x = ⟨#[]⟩)) = false) : x = (⟨#[]⟩ : ByteArray) := by simpa using h
theorem flt1 {α : Type} {p : α → Bool} {a : α} (h : p a = true) : [a].filter p = [a] := by simp [h]
theorem flt0 {α : Type} {p : α → Bool} {a : α} (h : p a = false) : [a].filter p = [] := by simp [h]
theorem mem_snoc {α : Type} {l : List α} {q a : α} : (q ∈ l ∨ q = a) ↔ q ∈ l ++ [a] := ⟨fun h => List.mem_append.2 (h.imp id List.mem_singleton.2), fun h => (List.mem_append.1 h).imp id List.mem_singleton.1⟩
theorem take_snoc' {α : Type} (l : List α) {i : Nat} (h : i < l.length) : l.take (i + 1) = l.take i ++ [l[i]] := List.take_succ_eq_append_getElem h
set_option maxRecDepth 20000 in
set_option maxHeartbeats 2000000 in
theorem uses_runs (p : Option Addr) (op : Bool) (L : List Inf) (s : ByteArray) (w : World) (hE : EnvV w p L) (hs : s.size ≤ 9223372036854775807) :
    Runs Tryz.prog 60 #[.agg #[.pointer p, .bool op], .string s] w fun v w' => Ext w w' ∧ ∃ b nn, v = .map (some b) ∧ w.heap.size ≤ b ∧ nn ≤ 70000000 ∧ OMl w' b nn (usesL L op s) := by
  refine Runs.of_vc (ρ := []) cx_ok [0, 1, 2, 4, 5, 6, 7, 8, 10, 12, 13, 24, 43, 49, 50, 51, 52, 62, 68, 69, 70, 71, 85] [.a [.v (.pointer p), .v (.bool op)], .v (.string s)] Tryz.func60 rfl rfl rfl (Holds.nil w) ?_
  intro g1 w1 e1 x1 z1 hh1
  refine OpT.makeS fun w2 b eb x2 zb om2 => ?_
  refine Lands.v (hh1.ext x2) ?_
  intro g3 w3 e3 x3 z3 hh3
  intro w4 m4 z4 hh4
  replace m4 : Upd g3 w3 w4 := m4
  have y4 : Ext w2 w4 := x3.upd m4 (by omega)
  have q4 := y4.size
  have yy4 : Ext w w4 := x1.trans (x2.trans y4)
  refine (Find_v p L s w4 hE yy4).mono ?_
  rintro _ w5 ⟨x5, cs5, rfl, hv5⟩
  have hh5 := hh4.ext x5
  have z5 := x5.size
  have hrl := hE.rls s
  have hgI : findI L s = none ∨ findI L s = some (getI L s) := by
    unfold getI; cases findI L s with
    | none => exact .inl rfl
    | some x => exact .inr rfl
  generalize getI L s = X at *
  have hv50 := hv5
  obtain ⟨ctY, cvY, raY, rcY, rfl, htyY, hvlY, hruY, hrlY, hokY⟩ := hv5; obtain ⟨kYt, nYt, sYt, lsYt, tsYt, laYt, lcYt, taYt, tcYt, etyY, rfl, hkYt, hnYt, hsYt, hllYt, hltYt, hLYt, hTYt⟩ := htyY.inv; obtain ⟨kYv, nYv, sYv, lsYv, tsYv, laYv, lcYv, taYv, tcYv, evlY, rfl, hkYv, hnYv, hsYv, hllYv, hltYv, hLYv, hTYv⟩ := hvlY.inv
  refine Lands.ret (s := .t [.a [.v (.int .u8 X.kind), .v (.string X.name), .v (.int .i64 X.params), .v (.int .u8 kYt), .v (.int .i64 nYt), .v (.string sYt), .v (.slice laYt lsYt.length lcYt), .v (.slice taYt tsYt.length tcYt), .v (.int .u8 kYv), .v (.int .i64 nYv), .v (.string sYv), .v (.slice laYv lsYv.length lcYv), .v (.slice taYv tsYv.length tcYv), .v (.int .i64 X.height), .v (.string X.block), .v (.string X.of_), .v (.int .i64 X.fixed), .v (.int .i64 X.index), .v (.int .i64 X.no), .v (.int .i64 X.fields), .v (.int .i64 X.motives), .v (.int .i64 X.minors), .v (.slice raY X.rules.length rcY), .v (.int .i64 X.ctors), .v (.bool X.record)], .v (.bool (findI L s).isSome)]) rfl rfl hh5 ?_
  intro g6 w6 e6 x6 z6 hh6
  intro w7 m7 z7 hh7
  replace m7 : Upd g6 w6 w7 := m7
  have y7 : Ext w5 w7 := x6.upd m7 (by omega)
  have om7 := (om2.ext y4).ext (x5.trans y7)
  refine Or.inl (And.intro (fun h => ?_) (fun h => ?_))
  · have hn : findI L s = none := by simpa [sel] using h
    refine ⟨yy4.trans (x5.trans y7), b, 0, rfl, by omega, by omega, om7.congr fun q => ?_⟩
    unfold usesL; rw [hn]; simp
  · have hsm : findI L s = some X := by
      rcases hgI with h' | h'
      · rw [h'] at h; simp [sel] at h
      · exact h'
    have yy7 : Ext w w7 := yy4.trans (x5.trans y7)
    have bg3 : Box w7 g3 [.map (some b)] := hh7.box 1 _ rfl
    have q7 := yy7.size
    refine (look_runs X.ty _ g3 b 0 w7 (htyY.ext y7) bg3 om7 (by omega) (by omega)).mono ?_
    rintro _ w8 ⟨m8, n8, hn8, om8⟩
    have hfar : ∀ i, i < [g1, g3, g6].length → ¬ adr [g1, g3, g6] i = b := fun i hi => by
      have hi : i = 0 ∨ i = 1 ∨ i = 2 := by simp only [List.length_cons, List.length_nil] at hi; omega
      rcases hi with rfl | rfl | rfl
      · show ¬ g1 = b; omega
      · show ¬ g3 = b; omega
      · show ¬ g6 = b; omega
    have hfR : ∀ k, (k < w.heap.size ∨ (w4.heap.size ≤ k ∧ k < w5.heap.size)) → ¬ k = b := fun k hk e => by omega
    have hh8 := hh7.mod m8 hfar
    refine Lands.v hh8 ?_
    have u8 : UQ w7 b 65536 (nms X.ty) w8 := ⟨m8, n8, by omega, om8.congr fun q => by simp⟩
    have key : sel (decide (X.kind = 2)) true (sel (decide (X.kind = 3)) (!op) false) = lookB op X := by
      unfold lookB; by_cases h2 : X.kind = 2 <;> by_cases h3 : X.kind = 3 <;> simp [sel, h2, h3]
    refine vJoin_upd (σ := Unit) [44, 45, 46, 47] (fun _ => []) [] (fun _ => []) (fun _ w' => UQ w7 b 131072 (nms X.ty ++ if lookB op X then nms X.val else []) w') (fun _ => ⟨rfl, rfl⟩) (fun h => ?_) (fun h => ?_) ?_
    · have hl : lookB op X = true := key.symm.trans h
      have om8' := om8
      refine (look_runs X.val _ g3 b n8 w8 ((hvlY.ext y7).mod m8 ?_) (hh8.box 1 _ rfl) om8 (by omega) (by omega)).mono ?_
      · exact hfR
      rintro _ w9 ⟨m9, n9, hn9, om9⟩
      refine Lands.v (hh8.mod m9 hfar) ?_
      exact Exists.intro (()) ⟨esub_over (by repeat (first | exact trivial | refine And.intro rfl ?_)) (by repeat (first | exact trivial | refine And.intro rfl ?_)), hsub_over (by repeat (first | exact trivial | refine And.intro rfl ?_)) (by repeat (first | exact trivial | refine And.intro rfl ?_)), u8.go m9 (l2 := nms X.val) ⟨n9, by omega, om9.congr fun q => by simp⟩ (by rw [if_pos hl])⟩
    · have hl : ¬ lookB op X = true := by rw [key.symm.trans h]; decide
      exact Exists.intro (()) ⟨esub_over (by repeat (first | exact trivial | refine And.intro rfl ?_)) (by repeat (first | exact trivial | refine And.intro rfl ?_)), hsub_over (by repeat (first | exact trivial | refine And.intro rfl ?_)) (by repeat (first | exact trivial | refine And.intro rfl ?_)), u8.1, n8, by omega, om8.congr fun q => by rw [if_neg hl]; simp⟩
    rintro _ w9 hh9 u9
    have hl2 : ∀ q : Nat, q ≤ X.rules.length → 131072 + q * 65536 ≤ 65667072 := fun q hq => by omega
    refine vLoop_upd (σ := Nat) [10, 51, 52, 53, 54, 55, 56, 57, 58, 59] (fun i => [(51, .v (.int .i64 i))]) [] (fun _ => [])
      (fun i w' => i ≤ X.rules.length ∧ UQ w7 b (131072 + i * 65536) (nms X.ty ++ (if lookB op X then nms X.val else []) ++ (X.rules.take i).flatMap fun r => nms r.b) w') (fun i => X.rules.length - i) 0 (fun _ => ⟨rfl, rfl⟩)
      ⟨(by repeat (first | exact trivial | refine And.intro rfl ?_)), (by repeat (first | exact trivial | refine And.intro rfl ?_)), (by repeat (first | exact trivial | refine And.intro rfl ?_)), (by repeat (first | exact trivial | refine And.intro rfl ?_)), Nat.zero_le _, by simpa using u9⟩ ?_
    rintro i w10 hh10 ⟨hi, u10⟩
    obtain ⟨m10, n10, hn10, om10⟩ := u10
    refine Or.inl (And.intro (fun h => ?_) (fun h => ?_))
    · have hil : i < X.rules.length := by have := of_decide_eq_true h; omega
      obtain ⟨a, cr, ha, hab, hrow, hR'⟩ := ((hruY.ext y7).mod m10 hfR).at hil
      have htk : X.rules.take (i + 1) = X.rules.take i ++ [X.rules[i]] := take_snoc' _ hil
      generalize X.rules[i] = r at *
      obtain ⟨cbr, rfl, hbor, hrfr, hrcr⟩ := hR'; obtain ⟨krb, nrb, srb, lsrb, tsrb, larb, lcrb, tarb, tcrb, ebor, rfl, hkrb, hnrb, hsrb, hllrb, hltrb, hLrb, hTrb⟩ := hbor.inv
      refine OpT.indexAddr Tryz.underlying34 Tryz.sizeOf84 rfl rfl ha (by first | omega | (simp only [lenOk] at *; omega)) ?_; refine Lands.v hh10 ?_
      refine OpT.loadA Tryz.isAgg84 (by exact Tryz.sizeOf84) rfl hrow ?_; refine Lands.ret (s := .a [.v (.string r.c), .v (.int .i64 r.f), .v (.int .u8 krb), .v (.int .i64 nrb), .v (.string srb), .v (.slice larb lsrb.length lcrb), .v (.slice tarb tsrb.length tcrb)]) rfl rfl hh10 ?_
      intro g11 w11 e11 x11 z11 hh11
      intro w12 m12 z12 hh12
      replace m12 : Upd g11 w11 w12 := m12
      have y12 : Ext w10 w12 := x11.upd m12 (by omega)
      have q10 := m10.size
      have q12 := y12.size
      refine (look_runs r.b _ g3 b n10 w12 (hbor.ext y12) (hh12.box 1 _ rfl) (om10.ext y12) (by omega) (by omega)).mono ?_
      rintro _ w13 ⟨m13, n13, hn13, om13⟩
      refine Lands.v (hh12.mod m13 (outR.get (S := fun k => k = b) (by repeat (first | exact trivial | refine And.intro (by omega) ?_)))) ?_
      refine vsd (by simp only [inKind]; omega) ?_
      have hb : 131072 + (i + 1) * 65536 = 131072 + i * 65536 + 65536 := by omega
      exact Exists.intro (i + 1) ⟨by omega, esub_over (by repeat (first | exact trivial | refine And.intro rfl ?_)) (by repeat (first | exact trivial | refine And.intro rfl ?_)), hsub_over (by repeat (first | exact trivial | refine And.intro rfl ?_)) (by repeat (first | exact trivial | refine And.intro rfl ?_)), hil, UQ.go (l2 := nms r.b) ⟨m10, n10, hn10, om10⟩ ((Mod.mono y12 fun _ h => h.elim).trans m13) ⟨n13, by omega, om13⟩ (by rw [htk, List.flatMap_append, List.flatMap_singleton, List.append_assoc])⟩
    · obtain rfl : i = X.rules.length := by have := of_decide_eq_false h; omega
      rw [List.take_length] at om10
      have hq10 := m10.size
      refine vJoin_upd (σ := Unit) [12, 13, 14, 63, 64, 65, 66, 67, 68, 69, 70, 71, 72, 73, 74, 75, 76, 77, 78, 79, 80, 81, 82, 83, 84, 85, 86, 87, 88] (fun _ => []) [] (fun _ => []) (fun _ w' => UQ w7 b 66000000 (useN L op X) w') (fun _ => ⟨rfl, rfl⟩) (fun h => ?_) (fun h => ?_) ?_
      · have hb : ¬ X.block = noS := noS_ne h
        have hbs : X.block.size ≤ 9223372036854775807 := hokY.2.2.2.2.1
        refine OpT.putS rfl rfl rfl hbs (by simp only [maxLen]; omega) om10 fun w11 m11 om11 => ?_
        have hm11 : Bw.Mod (fun k => k = b) w10 w11 := m11
        have hq11 := hm11.size
        have hh11 := hh10.mod hm11 (outR.get (S := fun k => k = b) (by repeat (first | exact trivial | refine And.intro (by omega) ?_)))
        refine Lands.v hh11 ?_
        have yy11 : Ext w w11 := yy7.trans' (m10.trans hm11) fun k hk hs => by omega
        refine vcV (List_v p L w11 (hE.ext yy11)) hh11 fun v12 w12 x12 z12 hh12 p12 => ?_
        obtain ⟨A12, c12, rfl, o12⟩ := p12
        have om12 := om11.ext x12
        have hL := hE.few
        have hLl : (L.map (·.name)).length = L.length := List.length_map _
        generalize hpre : nms X.ty ++ (if lookB op X then nms X.val else []) ++ X.rules.flatMap (fun r => nms r.b) = pre at *
        refine vLoop_upd (σ := Nat) [12, 13, 14, 70, 71, 72, 73, 74, 75, 76, 77, 78, 79, 80, 81, 82, 83, 84, 85, 86, 87, 88] (fun i => [(70, .v (.int .i64 i))]) [] (fun _ => [])
          (fun i w' => i ≤ L.length ∧ Bw.Mod (fun k => k = b) w12 w' ∧ ∃ n', n' ≤ 65800000 + i ∧ OMl w' b n' (pre ++ (X.block :: ((L.map (·.name)).take i).filter fun n => decide ((getI L n).block = X.block)))) (fun i => L.length - i) 0 (fun _ => ⟨rfl, rfl⟩)
          ⟨(by repeat (first | exact trivial | refine And.intro rfl ?_)), (by repeat (first | exact trivial | refine And.intro rfl ?_)), (by repeat (first | exact trivial | refine And.intro rfl ?_)), (by repeat (first | exact trivial | refine And.intro rfl ?_)), Nat.zero_le _, Mod.refl _ _, n10 + 1, by omega, om12.congr fun q => by simp⟩ ?_
        rintro i w13 hh13 ⟨hi, m13, n13, hn13, om13⟩
        have yy13 : Ext w w13 := (yy11.trans x12).trans' m13 fun k hk hs => by omega
        have o13 : OwnE encS w13 w11.heap.size 9 (fun _ => False) A12 c12 (L.map (·.name)) := o12.mod m13 fun k hk hs => ⟨fun h => h, by have hs : k = b := hs; omega⟩
        have q13 := m13.size
        have q12 := x12.size
        refine Or.inl (And.intro (fun h => ?_) (fun h => ?_))
        · have hil : i < (L.map (·.name)).length := by have := of_decide_eq_true h; omega
          obtain ⟨a1, cs1, ha1, _, hrow, rfl, hsz1⟩ := o13.sl.at hil
          have htk := take_snoc' _ hil
          generalize (L.map (·.name))[i] = nm at *
          refine OpT.indexAddr Tryz.underlying28 Tryz.sizeOf9 rfl rfl ha1 (by first | omega | (simp only [lenOk] at *; omega)) ?_; refine Lands.v hh13 ?_
          refine OpT.load Tryz.isAgg9 rfl (hrow.cell 0 rfl) ?_; refine Lands.v hh13 ?_
          refine (Find_v p L nm w13 hE yy13).mono ?_
          rintro _ w14 ⟨x14, cs14, rfl, hv14⟩
          have hh14 := hh13.ext x14
          have z14 := x14.size
          generalize hZ : getI L nm = Z at *
          generalize (findI L nm).isSome = bz at *
          obtain ⟨ctV, cvV, raV, rcV, rfl, htyV, hvlV, hruV, hrlV, hokV⟩ := hv14; obtain ⟨kVt, nVt, sVt, lsVt, tsVt, laVt, lcVt, taVt, tcVt, etyV, rfl, hkVt, hnVt, hsVt, hllVt, hltVt, hLVt, hTVt⟩ := htyV.inv; obtain ⟨kVv, nVv, sVv, lsVv, tsVv, laVv, lcVv, taVv, tcVv, evlV, rfl, hkVv, hnVv, hsVv, hllVv, hltVv, hLVv, hTVv⟩ := hvlV.inv
          refine Lands.ret (s := .t [.a [.v (.int .u8 Z.kind), .v (.string Z.name), .v (.int .i64 Z.params), .v (.int .u8 kVt), .v (.int .i64 nVt), .v (.string sVt), .v (.slice laVt lsVt.length lcVt), .v (.slice taVt tsVt.length tcVt), .v (.int .u8 kVv), .v (.int .i64 nVv), .v (.string sVv), .v (.slice laVv lsVv.length lcVv), .v (.slice taVv tsVv.length tcVv), .v (.int .i64 Z.height), .v (.string Z.block), .v (.string Z.of_), .v (.int .i64 Z.fixed), .v (.int .i64 Z.index), .v (.int .i64 Z.no), .v (.int .i64 Z.fields), .v (.int .i64 Z.motives), .v (.int .i64 Z.minors), .v (.slice raV Z.rules.length rcV), .v (.int .i64 Z.ctors), .v (.bool Z.record)], .v (.bool bz)]) rfl rfl hh14 ?_
          intro g15 w15 e15 x15 z15 hh15
          intro w16 m16 z16 hh16
          replace m16 : Upd g15 w15 w16 := m16
          have y16 : Ext w13 w16 := (x14.trans x15).upd m16 (by omega)
          have mm16 : Bw.Mod (fun k => k = b) w12 w16 := m13.trans (Mod.mono y16 fun _ h => h.elim)
          have om16 := om13.ext y16
          have q16 := y16.size
          refine Or.inl (And.intro (fun h => ?_) (fun h => ?_))
          · have hb : Z.block = X.block := by simpa [sel] using h
            refine OpT.putS rfl rfl rfl hsz1 (by simp only [maxLen]; omega) om16 fun w17 m17 om17 => ?_
            have hm17 : Bw.Mod (fun k => k = b) w16 w17 := m17
            refine Lands.v (hh16.mod hm17 (outR.get (S := fun k => k = b) (by repeat (first | exact trivial | refine And.intro (by omega) ?_)))) ?_
            refine vsd (by simp only [inKind]; omega) ?_
            exact Exists.intro (i + 1) ⟨by omega, esub_over (by repeat (first | exact trivial | refine And.intro rfl ?_)) (by repeat (first | exact trivial | refine And.intro rfl ?_)), hsub_over (by repeat (first | exact trivial | refine And.intro rfl ?_)) (by repeat (first | exact trivial | refine And.intro rfl ?_)), (by omega), mm16.trans hm17, n13 + 1, by omega, om17.congr fun q => by rw [htk, List.filter_append, flt1 (by rw [hZ]; exact decide_eq_true hb), ← List.cons_append, ← List.append_assoc]; exact mem_snoc⟩
          · have hb : ¬ Z.block = X.block := by simpa [sel] using h
            refine vsd (by simp only [inKind]; omega) ?_
            exact Exists.intro (i + 1) ⟨by omega, esub_over (by repeat (first | exact trivial | refine And.intro rfl ?_)) (by repeat (first | exact trivial | refine And.intro rfl ?_)), hsub_over (by repeat (first | exact trivial | refine And.intro rfl ?_)) (by repeat (first | exact trivial | refine And.intro rfl ?_)), (by omega), mm16, n13, by omega, om16.congr fun q => by rw [htk, List.filter_append, flt0 (by rw [hZ]; exact decide_eq_false hb), List.append_nil]⟩
        · obtain rfl : i = L.length := by have := of_decide_eq_false h; omega
          rw [← hLl, List.take_length] at om13
          exact Exists.intro (()) ⟨esub_over (by repeat (first | exact trivial | refine And.intro rfl ?_)) (by repeat (first | exact trivial | refine And.intro rfl ?_)), hsub_over (by repeat (first | exact trivial | refine And.intro rfl ?_)) (by repeat (first | exact trivial | refine And.intro rfl ?_)), (m10.trans hm11).trans ((Mod.mono x12 fun _ h => h.elim).trans m13), n13, by omega, om13.congr fun q => by unfold useN blkL; rw [if_neg hb, hpre]⟩
      · have hb : X.block = noS := noS_eq h
        exact Exists.intro (()) ⟨esub_over (by repeat (first | exact trivial | refine And.intro rfl ?_)) (by repeat (first | exact trivial | refine And.intro rfl ?_)), hsub_over (by repeat (first | exact trivial | refine And.intro rfl ?_)) (by repeat (first | exact trivial | refine And.intro rfl ?_)), m10, n10, by omega, om10.congr fun q => by unfold useN; rw [if_pos hb, List.append_nil]⟩
      rintro _ w11 hh11 ⟨m11, n11, hn11, om11⟩
      refine OpT.delS rfl rfl hs om11 fun w12 m12 om12 => ?_
      have hm12 : Bw.Mod (fun k => k = b) w11 w12 := m12
      refine Lands.v (hh11.mod hm12 (outR.get (S := fun k => k = b) (by repeat (first | exact trivial | refine And.intro (by omega) ?_)))) ?_
      refine ⟨yy7.trans' (m11.trans hm12) fun k hk hs => by omega, b, n11, rfl, by omega, by omega, om12.congr fun q => ?_⟩
      unfold usesL; rw [hsm]; simp
end Go.Proofs.YtfljbnhhkdaobaaGreat

/-
  All on which names rest.
-/
namespace Go.Proofs.YtfljbnhhkdaobaaGreat
open Go Go.RowKit Go.Proofs.Bw
set_option linter.unusedVariables false
set_option linter.unusedSimpArgs false
theorem ownO_of {w : World} {lo el c : Nat} {R : Nat → Prop} {A : Option Addr} {l : List ByteArray} (h : OwnE encS w lo el R A c l) : OwnO w lo el 1 A c (sR l) ∧ ∀ s ∈ l, s.size ≤ 9223372036854775807 := by
  obtain ⟨css, h1, h2⟩ := h
  have hcs : css = sR l := by
    refine List.ext_getElem? fun i => ?_
    simp only [sR, List.getElem?_map]
    by_cases hi : i < l.length
    · have hi' : i < css.length := by rw [h2.1]; exact hi
      have := (h2.2 i css[i] l[i] (List.getElem?_eq_getElem hi') (List.getElem?_eq_getElem hi)).1
      rw [List.getElem?_eq_getElem hi', List.getElem?_eq_getElem hi, this]; rfl
    · rw [List.getElem?_eq_none (by rw [h2.1]; omega), List.getElem?_eq_none (by omega)]; rfl
  subst hcs
  refine ⟨?_, fun s hs => ?_⟩
  · obtain ⟨A', c', hv, ho⟩ := OwnO.of_row h1.1 h1.2
    injection hv with e1 e2 e3
    subst e1; subst e3
    exact ho
  · obtain ⟨i, hi, rfl⟩ := List.getElem_of_mem hs
    exact (h2.2 i _ _ (by simp only [sR, List.getElem?_map, List.getElem?_eq_getElem hi, Option.map_some]; rfl) (List.getElem?_eq_getElem hi)).2
theorem sR_drop (l : List ByteArray) (i : Nat) : (sR l).drop i = sR (l.drop i) := by simp [sR, List.map_drop]
inductive Rch (L : List Inf) (op : Bool) (l : List ByteArray) : ByteArray → Prop
  | base {q : ByteArray} : q ∈ l → (findI L q).isSome = true → Rch L op l q
  | step {a q : ByteArray} : Rch L op l a → q ∈ usesL L op a → (findI L q).isSome = true → Rch L op l q
theorem findI_nm {L : List Inf} {q : ByteArray} (h : (findI L q).isSome = true) : q ∈ L.map (·.name) := by
  obtain ⟨x, hx⟩ := Option.isSome_iff_exists.1 h
  exact List.mem_map.2 ⟨x, (findI_mem hx).1, (findI_mem hx).2⟩
structure RS (L : List Inf) (op : Bool) (l ll sn : List ByteArray) : Prop where
  nd : sn.Nodup
  there : ∀ q ∈ sn, (findI L q).isSome = true
  ok : ∀ q ∈ sn, Rch L op l q
  left : ∀ q ∈ ll, (findI L q).isSome = true → Rch L op l q
  all : ∀ q ∈ l, (findI L q).isSome = true → q ∈ sn ∨ q ∈ ll
  closed : ∀ a ∈ sn, ∀ q ∈ usesL L op a, (findI L q).isSome = true → q ∈ sn ∨ q ∈ ll
  len : ll.length ≤ l.length + sn.length * 70000000
  sz : ∀ q ∈ ll, q.size ≤ 9223372036854775807
theorem RS.start {L : List Inf} {op : Bool} {l : List ByteArray} (hs : ∀ q ∈ l, q.size ≤ 9223372036854775807) : RS L op l l [] :=
  ⟨List.nodup_nil, fun q h => (by cases h), fun q h => (by cases h), fun q h1 h2 => .base h1 h2, fun q h _ => .inr h, fun a h => (by cases h), by simp, hs⟩
theorem RS.done {L : List Inf} {op : Bool} {l sn : List ByteArray} (h : RS L op l [] sn) (q : ByteArray) : q ∈ sn ↔ Rch L op l q := by
  refine ⟨h.ok q, fun hq => ?_⟩
  induction hq with
  | base h1 h2 => exact (h.all _ h1 h2).elim id fun h => (by cases h)
  | step _ h1 h2 ih => exact (h.closed _ ih _ h1 h2).elim id fun h => (by cases h)
theorem RS.skip {L : List Inf} {op : Bool} {l ll sn : List ByteArray} {a : ByteArray} (h : RS L op l (a :: ll) sn) (ha : (findI L a).isSome = true → a ∈ sn) : RS L op l ll sn := by
  have mv : ∀ q, (findI L q).isSome = true → q ∈ sn ∨ q ∈ a :: ll → q ∈ sn ∨ q ∈ ll := fun q hq h => h.elim .inl fun h => by
    rcases List.mem_cons.1 h with rfl | h
    · exact .inl (ha hq)
    · exact .inr h
  exact ⟨h.nd, h.there, h.ok, fun q hq => h.left q (List.mem_cons_of_mem _ hq), fun q hq h2 => mv q h2 (h.all q hq h2), fun b hb q hq h2 => mv q h2 (h.closed b hb q hq h2), by have := h.len; simp only [List.length_cons] at this; omega, fun q hq => h.sz q (List.mem_cons_of_mem _ hq)⟩
theorem RS.more {L : List Inf} {op : Bool} {l ll sn l2 : List ByteArray} {a : ByteArray} (h : RS L op l (a :: ll) sn) (h1 : (findI L a).isSome = true) (h2 : a ∉ sn) (h3 : ∀ q, q ∈ l2 ↔ q ∈ usesL L op a) (h4 : l2.length ≤ 70000000) (h5 : ∀ q ∈ l2, q.size ≤ 9223372036854775807) : RS L op l (ll ++ l2) (a :: sn) := by
  have hra := h.left a (List.mem_cons_self ..) h1
  have mv : ∀ q, q ∈ sn ∨ q ∈ a :: ll → q ∈ a :: sn ∨ q ∈ ll ++ l2 := fun q h => by
    rcases h with h | h
    · exact .inl (List.mem_cons_of_mem _ h)
    · rcases List.mem_cons.1 h with rfl | h
      · exact .inl (List.mem_cons_self ..)
      · exact .inr (List.mem_append.2 (.inl h))
  refine ⟨List.nodup_cons.2 ⟨h2, h.nd⟩, fun q hq => ?_, fun q hq => ?_, fun q hq hf => ?_, fun q hq hf => mv q (h.all q hq hf), fun b hb q hq hf => ?_, ?_, fun q hq => ?_⟩
  · rcases List.mem_cons.1 hq with rfl | hq
    · exact h1
    · exact h.there q hq
  · rcases List.mem_cons.1 hq with rfl | hq
    · exact hra
    · exact h.ok q hq
  · rcases List.mem_append.1 hq with hq | hq
    · exact h.left q (List.mem_cons_of_mem _ hq) hf
    · exact .step hra ((h3 q).1 hq) hf
  · rcases List.mem_cons.1 hb with rfl | hb
    · exact .inr (List.mem_append.2 (.inr ((h3 q).2 hq)))
    · exact mv q (h.closed b hb q hq hf)
  · have := h.len
    simp only [List.length_cons, List.length_append] at this ⊢
    omega
  · rcases List.mem_append.1 hq with hq | hq
    · exact h.sz q (List.mem_cons_of_mem _ hq)
    · exact h5 q hq
theorem nodup_len {α : Type} [DecidableEq α] : ∀ {l l2 : List α}, l.Nodup → (∀ q ∈ l, q ∈ l2) → l.length ≤ l2.length := by
  intro l
  induction l with
  | nil => intro l2 _ _; exact Nat.zero_le _
  | cons a r ih =>
    intro l2 hn hs
    have ha := hs a (List.mem_cons_self ..)
    have hr := ih (l2 := l2.erase a) (List.nodup_cons.1 hn).2 fun q hq => by
      have hne : q ≠ a := fun e => (List.nodup_cons.1 hn).1 (e ▸ hq)
      exact (List.mem_erase_of_ne hne).2 (hs q (List.mem_cons_of_mem _ hq))
    rw [List.length_erase_of_mem ha] at hr
    have : 0 < l2.length := List.length_pos_of_mem ha
    simp only [List.length_cons]; omega
theorem RS.few {L : List Inf} {op : Bool} {l ll sn : List ByteArray} (h : RS L op l ll sn) : sn.length ≤ L.length := by
  have := nodup_len h.nd fun q hq => findI_nm (h.there q hq)
  rwa [List.length_map] at this
set_option maxRecDepth 20000 in
set_option maxHeartbeats 2000000 in
theorem rests_runs {R : Nat → Prop} (p : Option Addr) (op : Bool) (L : List Inf) (A : Option Addr) (c : Nat) (l : List ByteArray) (w : World) (hE : EnvV w p L) (hl : Sl encS w R A l) (hR : ∀ k, R k → k < w.heap.size) (hsz : l.length ≤ 70000000) :
    Runs Tryz.prog 53 #[.agg #[.pointer p, .bool op], .slice A l.length c] w fun v w' => Ext w w' ∧ ∃ b nn sn, v = .map (some b) ∧ w.heap.size ≤ b ∧ nn ≤ 4096 ∧ OMl w' b nn sn ∧ ∀ q, q ∈ sn ↔ Rch L op l q := by
  refine Runs.of_vc (ρ := []) cx_ok [0, 1, 2, 4, 5, 6, 7, 9, 15, 35] [.a [.v (.pointer p), .v (.bool op)], .v (.slice A l.length c)] Tryz.func53 rfl rfl rfl (Holds.nil w) ?_
  intro g1 w1 e1 x1 z1 hh1
  refine OpT.makeS fun w2 b eb x2 zb om2 => ?_
  have hh2 := hh1.ext x2
  refine Lands.v hh2 ?_
  refine vcV (CloneS_runs A l c w2 (hl.ext (x1.trans x2)) (fun k hk => by have := hR k hk; omega) (by omega)) hh2 fun v3 w3 x3 z3 hh3 p3 => ?_
  obtain ⟨A3, c3, rfl, o3⟩ := p3
  obtain ⟨oo3, hsl⟩ := ownO_of o3
  have yy3 : Ext w w3 := x1.trans (x2.trans x3)
  refine vLoop_upd (σ := Option Addr × Nat × List ByteArray × List ByteArray) [6, 7, 8, 9, 13, 14, 15, 16, 17, 18, 19, 20, 21, 22, 23, 24, 25, 26, 27, 28, 29, 30, 31, 32, 33, 34, 35, 36, 37, 38, 39, 40, 41, 42, 43] (fun s => [(6, .v (.slice s.1 s.2.2.1.length s.2.1))]) [] (fun _ => [])
    (fun s w' => Ext w w' ∧ w3.heap.size ≤ w'.heap.size ∧ RS L op l s.2.2.1 s.2.2.2 ∧ OMl w' b s.2.2.2.length s.2.2.2 ∧ OwnO w' w2.heap.size 9 1 s.1 s.2.1 (sR s.2.2.1)) (fun s => (L.length - s.2.2.2.length) * 70000001 + s.2.2.1.length) (A3, c3, l, []) (fun _ => ⟨rfl, rfl⟩)
    ⟨(by repeat (first | exact trivial | refine And.intro rfl ?_)), (by repeat (first | exact trivial | refine And.intro rfl ?_)), (by repeat (first | exact trivial | refine And.intro rfl ?_)), (by repeat (first | exact trivial | refine And.intro rfl ?_)), yy3, Nat.le_refl _, RS.start hsl, (om2.ext x3).congr fun q => by simp, oo3⟩ ?_
  rintro ⟨A4, c4, ll, sn⟩ w4 hh4 ⟨y4, q4, rs, om4, o4⟩
  simp only at rs om4 o4
  refine Or.inl (And.intro (fun h => ?_) (fun h => ?_))
  · cases ll with
    | nil => exact absurd (of_decide_eq_true h) (by simp)
    | cons a ll =>
    have hsa : a.size ≤ 9223372036854775807 := rs.sz a (List.mem_cons_self ..)
    obtain ⟨gl, off, rfl, hgl1, hgl2, hgl3, hgl4⟩ := o4.parts (by simp [sR])
    have hrow : RowAt w4 ⟨gl, off + 0 * 1, none⟩ [.string a] := o4.rows (i := 0) (r := [.string a]) rfl
    have hrow : RowAt w4 ⟨gl, off, none⟩ [.string a] := by simpa using hrow
    refine OpT.indexAddr Tryz.underlying28 Tryz.sizeOf9 rfl rfl rfl (by simp only [List.length_cons]; omega) ?_
    refine Lands.v hh4 ?_
    refine OpT.load Tryz.isAgg9 rfl (hrow.cell 0 rfl) ?_
    refine Lands.v hh4 ?_
    refine OpT.sliceO (i := 1) (j := ((a :: ll).length : Int)) (m := ll.length) Tryz.underlying28 Tryz.sizeOf9 rfl rfl rfl o4 (by rw [sR_length]; simp) (by have := o4.le.1; rw [sR_length] at this; simp only [List.length_cons] at this ⊢; omega) (by simp) fun A5 hA5 o5 => ?_
    refine Lands.v hh4 ?_
    replace o5 : OwnO w4 w2.heap.size 9 1 A5 (c4 - 1) (sR ll) := by rw [sR_drop] at o5; exact o5
    refine (Find_v p L a w4 hE y4).mono ?_
    rintro _ w6 ⟨x6, cs6, rfl, hv6⟩
    have hh6 := hh4.ext x6
    have z6 := x6.size
    generalize hZ : getI L a = Z at *
    generalize hbz : (findI L a).isSome = bz at *
    obtain ⟨ctV, cvV, raV, rcV, rfl, htyV, hvlV, hruV, hrlV, hokV⟩ := hv6; obtain ⟨kVt, nVt, sVt, lsVt, tsVt, laVt, lcVt, taVt, tcVt, etyV, rfl, hkVt, hnVt, hsVt, hllVt, hltVt, hLVt, hTVt⟩ := htyV.inv; obtain ⟨kVv, nVv, sVv, lsVv, tsVv, laVv, lcVv, taVv, tcVv, evlV, rfl, hkVv, hnVv, hsVv, hllVv, hltVv, hLVv, hTVv⟩ := hvlV.inv
    refine Lands.ret (s := .t [.a [.v (.int .u8 Z.kind), .v (.string Z.name), .v (.int .i64 Z.params), .v (.int .u8 kVt), .v (.int .i64 nVt), .v (.string sVt), .v (.slice laVt lsVt.length lcVt), .v (.slice taVt tsVt.length tcVt), .v (.int .u8 kVv), .v (.int .i64 nVv), .v (.string sVv), .v (.slice laVv lsVv.length lcVv), .v (.slice taVv tsVv.length tcVv), .v (.int .i64 Z.height), .v (.string Z.block), .v (.string Z.of_), .v (.int .i64 Z.fixed), .v (.int .i64 Z.index), .v (.int .i64 Z.no), .v (.int .i64 Z.fields), .v (.int .i64 Z.motives), .v (.int .i64 Z.minors), .v (.slice raV Z.rules.length rcV), .v (.int .i64 Z.ctors), .v (.bool Z.record)], .v (.bool bz)]) rfl rfl hh6 ?_
    intro g7 w7 e7 x7 z7 hh7
    intro w8 m8 z8 hh8
    replace m8 : Upd g7 w7 w8 := m8
    have y8 : Ext w4 w8 := (x6.trans x7).upd m8 (by omega)
    have yy8 : Ext w w8 := y4.trans y8
    have q8 := y8.size
    have om8 := om4.ext y8
    have o8 := o5.ext y8
    cases bz with
    | false =>
      refine vskip rfl ?_
      refine vskip rfl ?_
      refine OpT.pickT rfl rfl rfl ?_
      refine Lands.v hh8 ?_
      refine Or.inl (And.intro (fun _ => ?_) (fun hx => nomatch (rfl).symm.trans hx))
      exact Exists.intro ((A5, c4 - 1, ll, sn)) ⟨by simp only [List.length_cons]; omega, esub_over (by repeat (first | exact trivial | refine And.intro rfl ?_)) (by repeat (first | exact trivial | refine And.intro rfl ?_)), hsub_over (by repeat (first | exact trivial | refine And.intro rfl ?_)) (by repeat (first | exact trivial | refine And.intro rfl ?_)), yy8, by omega, rs.skip (fun h => by rw [hbz] at h; cases h), om8, o8⟩
    | true =>
      refine vyes rfl ?_
      refine OpT.lookS rfl rfl hsa om8 fun c9 h1 h0 => ?_
      refine Lands.v hh8 ?_
      refine Or.inl (And.intro (fun h => ?_) (fun h => ?_))
      · have hc : 0 < c9 := by simpa [sel] using h
        have hin : a ∈ sn := Classical.byContradiction fun hn => by have := h0 hn; omega
        exact Exists.intro ((A5, c4 - 1, ll, sn)) ⟨by simp only [List.length_cons]; omega, esub_over (by repeat (first | exact trivial | refine And.intro rfl ?_)) (by repeat (first | exact trivial | refine And.intro rfl ?_)), hsub_over (by repeat (first | exact trivial | refine And.intro rfl ?_)) (by repeat (first | exact trivial | refine And.intro rfl ?_)), yy8, by omega, rs.skip (fun _ => hin), om8, o8⟩
      · have hc : ¬ 0 < c9 := by simpa [sel] using h
        have hin : a ∉ sn := fun hn => by have := h1 hn; omega
        have hsn := rs.few
        have hL := hE.few
        refine OpT.putS rfl rfl rfl hsa (by simp only [maxLen]; omega) om8 fun w9 m9 om9 => ?_
        have hm9 : Bw.Mod (fun k => k = b) w8 w9 := m9
        have q9 := hm9.size
        have hh9 := hh8.mod hm9 (outR.get (S := fun k => k = b) (by repeat (first | exact trivial | refine And.intro (by omega) ?_)))
        refine Lands.v hh9 ?_
        have yy9 : Ext w w9 := yy8.trans' hm9 fun k hk hs => by omega
        have o9 : OwnO w9 w2.heap.size 9 1 A5 (c4 - 1) (sR ll) := o8.mod hm9 fun a' ha' hs => by
          have := (o8.block ha').1
          omega
        refine (uses_runs p op L a w9 (hE.ext yy9) hsa).mono ?_
        rintro _ w10 ⟨x10, bu, nu, rfl, hbu, hnu, omu⟩
        have hh10 := hh9.ext x10
        refine Lands.v hh10 ?_
        refine (Keys_runs bu w10).mono ?_
        rintro _ w11 ⟨x11, rfl, kb⟩
        have hh11 := hh10.ext x11
        refine Lands.v hh11 ?_
        have y911 : Ext w9 w11 := x10.trans x11
        have q11 := y911.size
        have hA5 : ∀ k, ownOf A5 k → w2.heap.size ≤ k ∧ k < w4.heap.size := fun k ⟨a', ha', e⟩ => by
          have := o5.block ha'
          omega
        refine (AppendSeq_runs A5 (c4 - 1) ll w11 (o9.ext y911) (by omega) (omu.ext x11) kb ?_).mono ?_
        · have := rs.len
          simp only [List.length_cons] at this
          omega
        rintro _ w12 ⟨m12, A6, c6, l2, rfl, o12, f12, hl2, hs2, hS2⟩
        have hh12 := hh11.mod m12 (outR.get (S := ownOf A5) (by repeat (first | exact trivial | refine And.intro (fun hk => by have := hA5 _ hk; omega) ?_)))
        refine Lands.v hh12 ?_
        have yy12 : Ext w w12 := (yy9.trans y911).trans' m12 fun k hk hs => by have := hA5 k hs; omega
        have q12 := m12.size
        have hmore := rs.more (l2 := l2) (by rw [hbz]) hin hS2 (by omega) hs2
        have hfew := hmore.few
        have hlen : (ll ++ l2).length ≤ ll.length + 70000000 := by rw [List.length_append]; omega
        exact Exists.intro ((A6, c6, ll ++ l2, a :: sn)) ⟨by simp only [List.length_cons] at hfew ⊢; omega, esub_over (by repeat (first | exact trivial | refine And.intro rfl ?_)) (by repeat (first | exact trivial | refine And.intro rfl ?_)), hsub_over (by repeat (first | exact trivial | refine And.intro rfl ?_)) (by repeat (first | exact trivial | refine And.intro rfl ?_)), yy12, by omega, hmore, ((om9.ext y911).mod m12 fun hk => by have := hA5 _ hk; omega).congr fun q => by simp [or_comm], o12⟩
  · have hll : ll = [] := by
      have := of_decide_eq_false h
      exact List.eq_nil_of_length_eq_zero (by simp only at this; omega)
    subst hll
    exact ⟨y4, b, sn.length, sn, rfl, by omega, by have := rs.few; have := hE.few; omega, om4, rs.done⟩
end Go.Proofs.YtfljbnhhkdaobaaGreat

/-
  Uses, Rests, Of, Opaque.
-/
namespace Go.Proofs.YtfljbnhhkdaobaaGreat
open Go Go.RowKit Go.Proofs.Bw
set_option linter.unusedVariables false
set_option linter.unusedSimpArgs false
set_option maxRecDepth 20000 in
set_option maxHeartbeats 1000000 in
theorem Uses_runs (p : Option Addr) (L : List Inf) (s : ByteArray) (w : World) (hE : EnvV w p L) (hs : s.size ≤ 9223372036854775807) :
    Runs Tryz.prog 23 #[.pointer p, .string s] w fun v w' => Ext w w' ∧ ∃ A c l, v = .slice A l.length c ∧ OwnE encS w' w.heap.size 9 (fun _ => False) A c l ∧ SetL (fun q => q ∈ usesL L false s) l := by
  refine Runs.of_vc (ρ := []) cx_ok [0, 1, 4] [.v (.pointer p), .v (.string s)] Tryz.func23 rfl rfl rfl (Holds.nil w) ?_
  refine (uses_runs p false L s w hE hs).mono ?_
  rintro _ w1 ⟨x1, b, nn, rfl, hb, hnn, om1⟩
  refine Lands.v (Holds.nil _) ?_
  refine (Keys_runs b w1).mono ?_
  rintro _ w2 ⟨x2, rfl, kb⟩
  refine Lands.v (Holds.nil _) ?_
  refine vcV (KS_runs w2 (om1.ext x2) kb (by omega)) (Holds.nil _) fun v3 w3 x3 z3 hh3 p3 => ?_
  obtain ⟨A3, c3, l, rfl, o3, hS⟩ := p3
  exact ⟨x1.trans (x2.trans x3), A3, c3, l, rfl, o3.lower (by have := x1.size; have := x2.size; omega), hS⟩
set_option maxRecDepth 20000 in
set_option maxHeartbeats 1000000 in
theorem Rests_runs {R : Nat → Prop} (p : Option Addr) (L : List Inf) (A : Option Addr) (c : Nat) (ns : List ByteArray) (w : World) (hE : EnvV w p L) (hl : Sl encS w R A ns) (hR : ∀ k, R k → k < w.heap.size) (hsz : ns.length ≤ 70000000) :
    Runs Tryz.prog 17 #[.pointer p, .slice A ns.length c] w fun v w' => Ext w w' ∧ ∃ A c l, v = .slice A l.length c ∧ OwnE encS w' w.heap.size 9 (fun _ => False) A c l ∧ SetL (Rch L false ns) l := by
  refine Runs.of_vc (ρ := []) cx_ok [0, 1, 4] [.v (.pointer p), .v (.slice A ns.length c)] Tryz.func17 rfl rfl rfl (Holds.nil w) ?_
  refine (rests_runs p false L A c ns w hE hl hR hsz).mono ?_
  rintro _ w1 ⟨x1, b, nn, sn, rfl, hb, hnn, om1, hsn⟩
  refine Lands.v (Holds.nil _) ?_
  refine (Keys_runs b w1).mono ?_
  rintro _ w2 ⟨x2, rfl, kb⟩
  refine Lands.v (Holds.nil _) ?_
  refine vcV (KS_runs w2 (om1.ext x2) kb (by omega)) (Holds.nil _) fun v3 w3 x3 z3 hh3 p3 => ?_
  obtain ⟨A3, c3, l, rfl, o3, hS⟩ := p3
  exact ⟨x1.trans (x2.trans x3), A3, c3, l, rfl, o3.lower (by have := x1.size; have := x2.size; omega), hS.congr hsn⟩
theorem Rch.there {L : List Inf} {op : Bool} {l : List ByteArray} {q : ByteArray} (h : Rch L op l q) : (findI L q).isSome = true := by
  cases h with
  | base _ h => exact h
  | step _ _ h => exact h
def axF (L : List Inf) (l : List ByteArray) : List ByteArray := l.filter fun q => decide ((getI L q).kind = 1)
set_option maxRecDepth 20000 in
set_option maxHeartbeats 2000000 in
theorem axioms_runs {R2 : Nat → Prop} (p : Option Addr) (op : Bool) (L : List Inf) (t : T) (cs : List Value) (w : World) (hE : EnvV w p L) (hv : VT w R2 cs t) :
    Runs Tryz.prog 64 #[.agg #[.pointer p, .bool op], .agg cs.toArray] w fun v w' => Ext w w' ∧ ∃ A c l, v = .slice A (axF L l).length c ∧ OwnE encS w' w.heap.size 9 (fun _ => False) A c (axF L l) ∧ SetL (Rch L op (nms t)) l := by
  have hv0 := hv
  obtain ⟨k, n, s, ls, ts, la, lc, ta, tc, et, rfl, hk, hn, hs, hll, hlt, hL, hT⟩ := hv.inv
  refine Runs.of_vc (ρ := []) cx_ok [0, 1, 2, 3, 4, 6, 7, 14, 15, 16, 17, 29] [.a [.v (.pointer p), .v (.bool op)], .a [.v (.int .u8 k), .v (.int .i64 n), .v (.string s), .v (.slice la ls.length lc), .v (.slice ta ts.length tc)]] Tryz.func64 rfl rfl rfl (Holds.nil w) ?_
  intro g1 w1 e1 x1 z1 hh1
  intro g2 w2 e2 x2 z2 hh2
  have y2 := x1.trans x2
  refine vDrw_mk [2, 3, 4, 5] (.one 0 (.one 1 (.one 7 (.one 2 (.one 3 (.one 4 (.one 5 (.one 6 .nil)))))))) rfl fun w3 x3 hh3 => ?_
  have y3 := y2.trans x3
  refine (nmsE_runs t _ w3 R2 (fun _ => False) (hv0.ext y3)).mono ?_
  rintro _ w4 ⟨x4, A4, c4, rfl, o4⟩
  refine Lands.v (hh3.ext x4) ?_
  refine And.intro x4 ?_
  have y4 := y3.trans x4
  have hle := nmsE_len t
  refine (rests_runs p op L A4 c4 (nms t) w4 (hE.ext y4) o4.sl (fun k hk => hk.2) (by omega)).mono ?_
  rintro _ w5 ⟨x5, b, nn, sn, rfl, hb, hnn, om5, hsn⟩
  have hh5 := (hh3.ext x4).ext x5
  refine Lands.v hh5 ?_
  refine And.intro x5 ?_
  refine (Keys_runs b w5).mono ?_
  rintro _ w6 ⟨x6, rfl, kb⟩
  have hh6 := hh5.ext x6
  refine Lands.v hh6 ?_
  refine And.intro x6 ?_
  refine (KS_runs w6 (om5.ext x6) kb (by omega)).mono ?_
  rintro _ w7 ⟨x7, A7, c7, rl, rfl, o7, hS⟩
  have hh7 := hh6.ext x7
  refine Lands.v hh7 ?_
  refine And.intro x7 ?_
  have y7 := ((y4.trans x5).trans x6).trans x7
  have q27 := (x3.trans (x4.trans (x5.trans (x6.trans x7)))).size
  have hlen : rl.length ≤ 4096 := by
    have := nodup_len hS.1.nodup fun q hq => findI_nm ((hsn q).1 ((hS.2 q).1 hq)).there
    rw [List.length_map] at this
    have := hE.few
    omega
  refine vLoop_upd (σ := Nat × Option Addr × Nat) [4, 6, 7, 8, 16, 17, 18, 19, 20, 21, 22, 23, 24, 25, 26, 27, 28, 29, 30, 31, 32, 33, 34] (fun s => [(16, .v (.int .i64 s.1)), (4, .v (.slice s.2.1 (axF L (rl.take s.1)).length s.2.2))]) [] (fun _ => [])
    (fun s w' => Ext w7 w' ∧ s.1 ≤ rl.length ∧ OwnE encS w' w7.heap.size 9 (fun _ => False) s.2.1 s.2.2 (axF L (rl.take s.1))) (fun s => rl.length - s.1) (0, none, 0) (fun _ => ⟨rfl, rfl⟩)
    ⟨⟨rfl, by simp [axF]; rfl, trivial⟩, (by repeat (first | exact trivial | refine And.intro rfl ?_)), (by repeat (first | exact trivial | refine And.intro rfl ?_)), (by repeat (first | exact trivial | refine And.intro rfl ?_)), Ext.refl _, Nat.zero_le _, by simpa [axF] using OwnE.nil _ _ _ _ _⟩ ?_
  rintro ⟨i, A8, c8⟩ w8 hh8 ⟨y8, hi, o8⟩
  simp only at hi o8
  have q8 := y8.size
  refine Or.inl (And.intro (fun h => ?_) (fun h => ?_))
  · have hil : i < rl.length := by have := of_decide_eq_true h; simp only at this; omega
    obtain ⟨a1, cs1, ha1, _, hrow, rfl, hsz1⟩ := (o7.ext y8).sl.at hil
    have htk := take_snoc' _ hil
    generalize rl[i] = nm at *
    have hF : ∀ k : Nat, (fun _ : Nat => False) k → k < w7.heap.size := fun k h => h.elim
    refine OpT.indexAddr Tryz.underlying28 Tryz.sizeOf9 rfl rfl ha1 (by first | omega | (simp only [lenOk] at *; omega)) ?_; refine Lands.v hh8 ?_
    refine OpT.load Tryz.isAgg9 rfl (hrow.cell 0 rfl) ?_; refine Lands.v hh8 ?_
    refine (Find_v p L nm w8 hE (y7.trans y8)).mono ?_
    rintro _ w9 ⟨x9, cs9, rfl, hv9⟩
    have hh9 := hh8.ext x9
    have z9 := x9.size
    generalize hZ : getI L nm = Z at *
    generalize (findI L nm).isSome = bz at *
    obtain ⟨ctV, cvV, raV, rcV, rfl, htyV, hvlV, hruV, hrlV, hokV⟩ := hv9; obtain ⟨kVt, nVt, sVt, lsVt, tsVt, laVt, lcVt, taVt, tcVt, etyV, rfl, hkVt, hnVt, hsVt, hllVt, hltVt, hLVt, hTVt⟩ := htyV.inv; obtain ⟨kVv, nVv, sVv, lsVv, tsVv, laVv, lcVv, taVv, tcVv, evlV, rfl, hkVv, hnVv, hsVv, hllVv, hltVv, hLVv, hTVv⟩ := hvlV.inv
    refine Lands.ret (s := .t [.a [.v (.int .u8 Z.kind), .v (.string Z.name), .v (.int .i64 Z.params), .v (.int .u8 kVt), .v (.int .i64 nVt), .v (.string sVt), .v (.slice laVt lsVt.length lcVt), .v (.slice taVt tsVt.length tcVt), .v (.int .u8 kVv), .v (.int .i64 nVv), .v (.string sVv), .v (.slice laVv lsVv.length lcVv), .v (.slice taVv tsVv.length tcVv), .v (.int .i64 Z.height), .v (.string Z.block), .v (.string Z.of_), .v (.int .i64 Z.fixed), .v (.int .i64 Z.index), .v (.int .i64 Z.no), .v (.int .i64 Z.fields), .v (.int .i64 Z.motives), .v (.int .i64 Z.minors), .v (.slice raV Z.rules.length rcV), .v (.int .i64 Z.ctors), .v (.bool Z.record)], .v (.bool bz)]) rfl rfl hh9 ?_
    intro g10 w10 e10 x10 z10 hh10
    intro w11 m11 z11 hh11
    replace m11 : Upd g10 w10 w11 := m11
    have y11 : Ext w8 w11 := (x9.trans x10).upd m11 (by omega)
    have q11 := y11.size
    refine Or.inl (And.intro (fun h => ?_) (fun h => ?_))
    · have hk : Z.kind = 1 := by simpa [sel] using h
      have hax : axF L (rl.take (i + 1)) = axF L (rl.take i) ++ [nm] := by unfold axF; rw [htk, List.filter_append, flt1 (by rw [hZ]; exact decide_eq_true hk)]
      have hl1 : (axF L (rl.take i)).length ≤ 4096 := by have := List.length_filter_le (fun q => decide ((getI L q).kind = 1)) (rl.take i); rw [List.length_take] at this; unfold axF; omega
      refine OpT.buildE (E := encS) (R := (fun _ => False)) (vs := [_]) (l := [nm]) Tryz.zeroValue9 (.cons rfl (.nil)) Tryz.underlying28 Tryz.sizeOf9 rfl rfl (Reps.cons (⟨rfl, hsz1⟩) (Reps.nil _ _ _)) rfl rfl hh11 fun w12 g12 e12 x12 z12 o12 hh12 => ?_
      refine OpT.appendO (E := encS) elS1 Tryz.underlying28 Tryz.underlying28 rfl rfl rfl rfl (l3 := axF L (rl.take (i + 1))) hax.symm rfl o8 (y11.trans x12) o12 (by omega) (fun k hk => by have := hF k hk; omega) (y8.trans (y11.trans x12)) (by omega) hh12 (by repeat (first | exact trivial | refine And.intro (by omega) ?_)) (by rw [hax, List.length_append, List.length_cons, List.length_nil]; omega) fun w13 A13 c13 y13 z13 o13 hh13 => ?_
      refine vsd (by simp only [inKind]; omega) ?_
      exact Exists.intro ((i + 1, A13, c13)) ⟨by simp only; omega, esub_over (by repeat (first | exact trivial | refine And.intro rfl ?_)) (by repeat (first | exact trivial | refine And.intro rfl ?_)), hsub_over (by repeat (first | exact trivial | refine And.intro rfl ?_)) (by repeat (first | exact trivial | refine And.intro rfl ?_)), y13, hil, o13⟩
    · have hk : ¬ Z.kind = 1 := by simpa [sel] using h
      have hax : axF L (rl.take (i + 1)) = axF L (rl.take i) := by unfold axF; rw [htk, List.filter_append, flt0 (by rw [hZ]; exact decide_eq_false hk), List.append_nil]
      refine vsd (by simp only [inKind]; omega) ?_
      exact Exists.intro ((i + 1, A8, c8)) ⟨by simp only; omega, esub_over ⟨rfl, by rw [← hax]; rfl, trivial⟩ (by repeat (first | exact trivial | refine And.intro rfl ?_)), hsub_over (by repeat (first | exact trivial | refine And.intro rfl ?_)) (by repeat (first | exact trivial | refine And.intro rfl ?_)), y8.trans y11, hil, by rw [hax]; exact o8.ext y11⟩
  · obtain rfl : i = rl.length := by have := of_decide_eq_false h; simp only at this; omega
    rw [List.take_length] at o8
    refine ⟨y7.trans y8, A8, c8, rl, by rw [List.take_length]; rfl, o8.lower y7.size, hS.congr hsn⟩
set_option maxRecDepth 20000 in
theorem Of_runs {R2 : Nat → Prop} (p : Option Addr) (L : List Inf) (t : T) (cs : List Value) (w : World) (hE : EnvV w p L) (hv : VT w R2 cs t) :
    Runs Tryz.prog 27 #[.pointer p, .agg cs.toArray] w fun v w' => Ext w w' ∧ ∃ A c l, v = .slice A (axF L l).length c ∧ OwnE encS w' w.heap.size 9 (fun _ => False) A c (axF L l) ∧ SetL (Rch L false (nms t)) l := by
  have hv0 := hv
  obtain ⟨k, n, s, ls, ts, la, lc, ta, tc, et, rfl, hk, hn, hs, hll, hlt, hL, hT⟩ := hv.inv
  refine Runs.of_vc (ρ := []) cx_ok [0, 1, 3, 4] [.v (.pointer p), .a [.v (.int .u8 k), .v (.int .i64 n), .v (.string s), .v (.slice la ls.length lc), .v (.slice ta ts.length tc)]] Tryz.func27 rfl rfl rfl (Holds.nil w) ?_
  intro g1 w1 e1 x1 z1 hh1
  refine (axioms_runs p false L t _ w1 (hE.ext x1) (hv0.ext x1)).mono ?_
  rintro _ w2 ⟨x2, A, c, l, rfl, o, hS⟩
  refine Lands.v (hh1.ext x2) ?_
  exact ⟨x1.trans x2, A, c, l, rfl, o.lower x1.size, hS⟩
set_option maxRecDepth 20000 in
theorem Opaque_runs {R2 : Nat → Prop} (p : Option Addr) (L : List Inf) (t : T) (cs : List Value) (w : World) (hE : EnvV w p L) (hv : VT w R2 cs t) :
    Runs Tryz.prog 28 #[.pointer p, .agg cs.toArray] w fun v w' => Ext w w' ∧ ∃ A c l, v = .slice A (axF L l).length c ∧ OwnE encS w' w.heap.size 9 (fun _ => False) A c (axF L l) ∧ SetL (Rch L true (nms t)) l := by
  have hv0 := hv
  obtain ⟨k, n, s, ls, ts, la, lc, ta, tc, et, rfl, hk, hn, hs, hll, hlt, hL, hT⟩ := hv.inv
  refine Runs.of_vc (ρ := []) cx_ok [0, 1, 3, 4] [.v (.pointer p), .a [.v (.int .u8 k), .v (.int .i64 n), .v (.string s), .v (.slice la ls.length lc), .v (.slice ta ts.length tc)]] Tryz.func28 rfl rfl rfl (Holds.nil w) ?_
  intro g1 w1 e1 x1 z1 hh1
  refine (axioms_runs p true L t _ w1 (hE.ext x1) (hv0.ext x1)).mono ?_
  rintro _ w2 ⟨x2, A, c, l, rfl, o, hS⟩
  refine Lands.v (hh1.ext x2) ?_
  exact ⟨x1.trans x2, A, c, l, rfl, o.lower x1.size, hS⟩
set_option maxRecDepth 20000 in
theorem Same9_runs {R R' : Nat → Prop} (A B : Option Addr) (c d : Nat) (l m : List ByteArray) (w : World) (hl : Sl encS w R A l) (hm : Sl encS w R' B m) (h1 : lenOk l.length c) (h2 : lenOk m.length d) :
    Runs Tryz.prog 19 #[.slice A l.length c, .slice B m.length d] w fun v w' => v = .bool (decide (l = m)) ∧ Ext w w' := by
  refine Runs.of_vc cx_ok [0, 1, 4, 5, 10, 14, 25] [.v _, .v _] Tryz.func19 rfl rfl rfl (Holds.nil _) ?_
  refine Or.inl (And.intro (fun h => ?_) (fun h => ?_))
  · have hne : ¬ l.length = m.length := fun e => by rw [e] at h; simp at h
    refine ⟨?_, Ext.refl _⟩
    rw [decide_eq_false fun e => hne (by rw [e])]; rfl
  · have hq : l.length = m.length := by
      have h' : ((l.length : Int) = m.length) := by simpa [sel] using h
      omega
    refine vLoop_upd (σ := Nat) [4, 5, 11, 12, 13, 14, 15, 16, 17, 18, 19, 20, 21, 22, 23, 24, 25] (fun i => [(5, .v (.int .i64 i))]) [] (fun _ => []) (fun i w' => Ext w w' ∧ i ≤ l.length ∧ l.take i = m.take i) (fun i => l.length - i) 0 (fun _ => ⟨rfl, rfl⟩)
      ⟨(by repeat (first | exact trivial | refine And.intro rfl ?_)), (by repeat (first | exact trivial | refine And.intro rfl ?_)), (by repeat (first | exact trivial | refine And.intro rfl ?_)), (by repeat (first | exact trivial | refine And.intro rfl ?_)), Ext.refl _, Nat.zero_le _, by simp⟩ ?_
    rintro i w1 hh1 ⟨x1, hi, heq⟩
    clear h
    refine Or.inl (And.intro (fun h => ?_) (fun h => ?_))
    · have hil : i < l.length := by have := of_decide_eq_true h; omega
      have him : i < m.length := by omega
      obtain ⟨a1, cs1, ha1, _, hrow1, rfl, hsz1⟩ := (hl.ext x1).at hil
      obtain ⟨a2, cs2, ha2, _, hrow2, rfl, hsz2⟩ := (hm.ext x1).at him
      have e1 := take_snoc' _ hil
      have e2 := take_snoc' _ him
      have hlx : l[i]? = some l[i] := List.getElem?_eq_getElem hil
      have hmx : m[i]? = some m[i] := List.getElem?_eq_getElem him
      generalize l[i] = x at *
      generalize m[i] = y at *
      refine vDrw_mk [] (.one 0 (.one 1 (.one 2 (.one 3 (.one 4 (.one 5 (.one 6 (.one 7 (.one 8 .nil))))))))) rfl fun w2 x2 hh2 => ?_
      refine Exists.intro (.v (.pointer (some (a1.add (i * 1))))) (And.intro rfl (And.intro (fun w' xx hh => OpT.indexAddr Tryz.underlying28 Tryz.sizeOf9 rfl rfl ha1 (by simp only [lenOk] at *; omega) ⟨rfl, rfl⟩) ?_))
      refine Exists.intro (.v (.string x)) (And.intro rfl (And.intro (fun w' xx hh => OpT.load Tryz.isAgg9 rfl ((hrow1.ext (x2.trans xx)).cell 0 rfl) ⟨rfl, rfl⟩) ?_))
      refine Exists.intro (.v (.pointer (some (a2.add (i * 1))))) (And.intro rfl (And.intro (fun w' xx hh => OpT.indexAddr Tryz.underlying28 Tryz.sizeOf9 rfl rfl ha2 (by simp only [lenOk] at *; omega) ⟨rfl, rfl⟩) ?_))
      refine Exists.intro (.v (.string y)) (And.intro rfl (And.intro (fun w' xx hh => OpT.load Tryz.isAgg9 rfl ((hrow2.ext (x2.trans xx)).cell 0 rfl) ⟨rfl, rfl⟩) ?_))
      clear h
      refine Or.inl (And.intro (fun h => ?_) (fun h => ?_))
      · have hne : ¬ x = y := by simpa [sel] using h
        refine ⟨?_, x1.trans x2⟩
        rw [decide_eq_false fun e => hne (by rw [e, hmx] at hlx; exact (Option.some.inj hlx).symm)]; rfl
      · have hxy : x = y := by simpa [sel] using h
        refine vsd (by simp only [inKind]; simp only [lenOk] at *; omega) ?_
        exact Exists.intro (i + 1) ⟨by omega, esub_over (by repeat (first | exact trivial | refine And.intro rfl ?_)) (by repeat (first | exact trivial | refine And.intro rfl ?_)), hsub_over (by repeat (first | exact trivial | refine And.intro rfl ?_)) (by repeat (first | exact trivial | refine And.intro rfl ?_)), x1.trans x2, hil, by rw [e1, e2, heq, hxy]⟩
    · obtain rfl : i = l.length := by have := of_decide_eq_false h; omega
      rw [List.take_length, hq, List.take_length] at heq
      exact ⟨by rw [decide_eq_true heq]; rfl, x1⟩
end Go.Proofs.YtfljbnhhkdaobaaGreat
