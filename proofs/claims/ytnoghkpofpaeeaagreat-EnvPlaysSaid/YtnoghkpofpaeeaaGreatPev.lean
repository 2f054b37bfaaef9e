/-
  What an operation that only computes yields, by a program, and that it does so.
-/
import Derived.Test.YtnoghkpofpaeeaaGreatVc
namespace Go.Proofs.Bw
open Go Go.RowKit

def sel (b x y : Bool) : Bool := (b && x) || (!b && y)
inductive PR where
  | ok (s : SV)
  | side (p : Prop) (s : SV)
  | no

def ikEq : IntKind → IntKind → Bool
  | .i8, .i8 | .i16, .i16 | .i32, .i32 | .i64, .i64 | .u8, .u8 | .u16, .u16 | .u32, .u32 | .u64, .u64 => true
  | _, _ => false
theorem ikEq_eq {a b : IntKind} (h : ikEq a b = true) : a = b := by cases a <;> cases b <;> first | rfl | cases h
def inKind : IntKind → Int → Prop
  | .i8, n => -128 ≤ n ∧ n ≤ 127
  | .i16, n => -32768 ≤ n ∧ n ≤ 32767
  | .i32, n => -2147483648 ≤ n ∧ n ≤ 2147483647
  | .i64, n => -9223372036854775808 ≤ n ∧ n ≤ 9223372036854775807
  | .u8, n => 0 ≤ n ∧ n ≤ 255
  | .u16, n => 0 ≤ n ∧ n ≤ 65535
  | .u32, n => 0 ≤ n ∧ n ≤ 4294967295
  | .u64, n => 0 ≤ n ∧ n ≤ 18446744073709551615
theorem wrap_in {k : IntKind} {n : Int} (h : inKind k n) : k.wrap n = n := by
  cases k <;> simp only [inKind] at h <;> simp [IntKind.wrap, IntKind.bits, IntKind.signed] <;> omega
def arith (k : IntKind) (n : Int) : PR := .side (inKind k n) (.v (.int k n))

def pint (b : BinOp) (k : IntKind) (x y : Int) : PR :=
  match b with
  | .add => arith k (x + y)
  | .sub => arith k (x - y)
  | .mul => arith k (x * y)
  | .lss => .ok (.v (.bool (decide (x < y))))
  | .leq => .ok (.v (.bool (decide (x ≤ y))))
  | .gtr => .ok (.v (.bool (decide (y < x))))
  | .geq => .ok (.v (.bool (decide (y ≤ x))))
  | .eql => .ok (.v (.bool (decide (x = y))))
  | .neq => .ok (.v (.bool (!decide (x = y))))
  | .quo => .side (0 ≤ x ∧ 0 < y ∧ inKind k (x / y)) (.v (.int k (x / y)))
  | .rem => .side (0 ≤ x ∧ 0 < y) (.v (.int k (x % y)))
  | .and => .ok (.v (.int k (bits .and k x y)))
  | .or => .ok (.v (.int k (bits .or k x y)))
  | .xor => .ok (.v (.int k (bits .xor k x y)))
  | .andNot => .ok (.v (.int k (bits .andNot k x y)))
  | _ => .no
def pshift (b : BinOp) (k : IntKind) (x y : Int) : PR :=
  match b with
  | .shl => .side (0 ≤ y) (.v (.int k (k.wrap (x * 2 ^ min y.toNat k.bits))))
  | .shr => .side (0 ≤ y) (.v (.int k (x.fdiv (2 ^ min y.toNat k.bits))))
  | _ => .no
def isShift : BinOp → Bool
  | .shl => true
  | .shr => true
  | _ => false
def pbool (b : BinOp) (x y : Bool) : PR :=
  match b with
  | .eql => .ok (.v (.bool (x == y)))
  | .neq => .ok (.v (.bool (!(x == y))))
  | _ => .no
def pstr (b : BinOp) (x y : ByteArray) : PR :=
  match b with
  | .eql => .ok (.v (.bool (decide (x = y))))
  | .neq => .ok (.v (.bool (!decide (x = y))))
  | .lss => .ok (.v (.bool (Op.bytesLess x.toList y.toList)))
  | .gtr => .ok (.v (.bool (!(Op.bytesLess x.toList y.toList || decide (x = y)))))
  | .leq => .ok (.v (.bool (Op.bytesLess x.toList y.toList || decide (x = y))))
  | .geq => .ok (.v (.bool (!Op.bytesLess x.toList y.toList)))
  | .add => .side ((x.size : Int) + y.size ≤ 9223372036854775807) (.v (.string (x ++ y)))
  | _ => .no
def pnil (b : BinOp) (isNil : Bool) : PR :=
  match b with
  | .eql => .ok (.v (.bool isNil))
  | .neq => .ok (.v (.bool (!isNil)))
  | _ => .no
def isTK : Option TD → Nat
  | some ⟨_, _, _, .bool⟩ => 1
  | some ⟨_, _, _, .ptr⟩ => 2
  | some ⟨_, _, _, .slice _ _⟩ => 3
  | _ => 0
def pbin (tab : Tab) (b : BinOp) (xt : Nat) (x y : SV) : PR :=
  match x, y with
  | .v (.int k a), .v (.int k' c) => bif isShift b then pshift b k a c else bif ikEq k k' then pint b k a c else .no
  | .v (.bool a), .v (.bool c) => bif Nat.beq (isTK (tget tab xt)) 1 then pbool b a c else .no
  | .v (.string a), .v (.string c) => pstr b a c
  | .p _ _, .v (.pointer none) => bif Nat.beq (isTK (tget tab xt)) 2 then pnil b false else .no
  | .v (.pointer a), .v (.pointer none) => bif Nat.beq (isTK (tget tab xt)) 2 then pnil b a.isNone else .no
  | .v (.slice a _ _), .v (.slice none _ _) => bif Nat.beq (isTK (tget tab xt)) 3 then pnil b a.isNone else .no
  | _, _ => .no
def ofO : Option SV → PR
  | some (.v x) => .ok (.v x)
  | some (.p a b) => .ok (.p a b)
  | some (.a l) => .ok (.a l)
  | some (.t l) => .ok (.t l)
  | some (.f g a b) => .ok (.f g a b)
  | none => .no
/-- the parts of an aggregate -/
def aggL : SV → Option (List SV)
  | .a l => some l
  | .v (.agg ⟨l⟩) => some (l.map .v)
  | _ => none
def tupL : SV → Option (List SV)
  | .t l => some l
  | .v (.tuple ⟨l⟩) => some (l.map .v)
  | _ => none
def evL (ev : Operand → Option SV) : List Operand → Option (List SV)
  | [] => some []
  | x :: r => match ev x with
    | some s => match evL ev r with
      | some l => some (s :: l)
      | none => none
    | none => none
def pfield (fs : List FD) (i : Nat) (l : List SV) : PR :=
  match fs[i]? with
  | some ⟨off, sz, ag⟩ => match ag with
    | true => .ok (.a ((l.drop off).take sz))
    | false => ofO l[off]?
  | none => .no
def pload (d : TD) (off : Nat) (l : List SV) : PR :=
  match d.agg with
  | true => bif Nat.ble (off + d.size) l.length then .ok (.a ((l.drop off).take d.size)) else .no
  | false => ofO l[off]?
def plen (tab : Tab) (t : Nat) (x : SV) : PR :=
  match x, tget tab t with
  | .v (.slice _ n _), some ⟨_, _, _, .slice _ _⟩ => .ok (.v (.int .i64 n))
  | .v (.string s), some ⟨_, _, _, .str⟩ => .ok (.v (.int .i64 s.size))
  | _, _ => .no
def pmm (b : Builtin) (x y : SV) : PR :=
  match x, y with
  | .v (.int k a), .v (.int k' c) => bif ikEq k k' then (match b with
    | .min => .ok (.v (.int k (if c < a then c else a)))
    | .max => .ok (.v (.int k (if c > a then c else a)))
    | _ => .no) else .no
  | _, _ => .no
def pindex (d : TD) (x y : SV) : PR :=
  match y with
  | .v (.int _ i) => match d.k, x with
    | .str, .v (.string s) => .side (0 ≤ i ∧ i < s.size) (.v (.int .u8 (s[i.toNat]!.toNat)))
    | _, _ => .no
  | _ => .no
def kindOfT : Option TD → Option IntKind
  | some ⟨_, _, _, .int k⟩ => some k
  | _ => none
def cellsS : SV → Option (List SV)
  | .a l => some l
  | .v (.agg ⟨l⟩) => some (l.map .v)
  | .v (.tuple _) => none
  | .t _ => none
  | s => some [s]
def pfill (fs : List FD) : List SV → List (Nat × SV) → Option (List SV)
  | cs, [] => some cs
  | cs, (i, s) :: r => match fs[i]?, cellsS s with
    | some ⟨off, sz, _⟩, some us => bif Nat.beq us.length sz && Nat.ble (off + sz) cs.length then pfill fs (cs.take off ++ us ++ cs.drop (off + sz)) r else none
    | _, _ => none
def evParts (ev : Operand → Option SV) : List (Nat × Operand) → Option (List (Nat × SV))
  | [] => some []
  | (i, x) :: r => match ev x, evParts ev r with
    | some s, some l => some ((i, s) :: l)
    | _, _ => none
def laid : List SV → Option (List SV)
  | [] => some []
  | s :: r => match laid r with
    | some r' => match s with
      | .v x => some (.v x :: r')
      | .p a b => some (.p a b :: r')
      | .a l => some (.a l :: r')
      | .t l => some (.t l :: r')
      | .f g a b => some (.f g a b :: r')
    | none => none
theorem laid_eq : ∀ l : List SV, laid l = some l
  | [] => rfl
  | s :: r => by simp only [laid, laid_eq r]; cases s <;> rfl
def pbuild (d : TD) (ps : List (Nat × SV)) : PR :=
  match d.k with
  | .struct fs => match pfill fs (d.zero.map .v) ps with
    | some cs => match laid cs with
      | some cs' => .ok (.a cs')
      | none => .no
    | none => .no
  | _ => .no
def pev (C : Cx) (ev evT evF : Operand → Option SV) (H : Heap) (o : Op) : PR :=
  match o with
  | .move x => ofO (ev x)
  | .assign x => ofO (ev x)
  | .pick c a b => match ev c, evT a, evF b with
    | some (.v (.bool q)), some (.v (.bool x)), some (.v (.bool y)) => .ok (.v (.bool (sel q x y)))
    | _, _, _ => .no
  | .binOp b xt x y _ => match ev x, ev y with
    | some x, some y => pbin C.tab b xt x y
    | _, _ => .no
  | .unOp .not _ x => match ev x with
    | some (.v (.bool q)) => .ok (.v (.bool (!q)))
    | _ => .no
  | .extract x i => match ev x with
    | some x => match tupL x with
      | some l => ofO l[i]?
      | none => .no
    | none => .no
  | .nilCheck x => match ev x with
    | some (.p k off) => .ok (.p k off)
    | some (.v (.pointer (some a))) => .ok (.v (.pointer (some a)))
    | some (.f g a b) => .ok (.f g a b)
    | _ => .no
  | .fieldAddr s x i => match ev x, tget C.tab s with
    | some (.p k off), some ⟨_, _, _, .struct fs⟩ => match fs[i]? with
      | some ⟨fo, fz, _⟩ => bif Nat.blt 0 fz then .ok (.p k (off + fo)) else .no
      | none => .no
    | some (.v (.pointer (some a))), some ⟨_, _, _, .struct fs⟩ => match fs[i]? with
      | some ⟨fo, fz, _⟩ => bif Nat.blt 0 fz then .ok (.v (.pointer (some (a.add fo)))) else .no
      | none => .no
    | _, _ => .no
  | .field s x i => match ev x, tget C.tab s with
    | some x, some ⟨_, _, _, .struct fs⟩ => match aggL x with
      | some l => pfield fs i l
      | none => .no
    | _, _ => .no
  | .load t x => match ev x, tget C.tab t with
    | some (.p k off), some d => match hget H k with
      | some l => pload d off l
      | none => .no
    | _, _ => .no
  | .makeFunc (.func g) fs cs => match evL ev fs.toList, evL ev cs.toList with
    | some a, some b => .ok (.f g a b)
    | _, _ => .no
  | .index t x y => match ev x, ev y, tget C.tab t with
    | some x, some y, some d => pindex d x y
    | _, _, _ => .no
  | .convert s u x => match ev x, kindOfT (tget C.tab s), kindOfT (tget C.tab u) with
    | some (.v (.int _ a)), some s, some k => bif Nat.blt k.bits s.bits then .ok (.v (.int k (k.wrap a))) else .side (inKind k a) (.v (.int k a))
    | _, _, _ => .no
  | .build bt ps => match tget C.tab bt, evParts ev ps.toList with
    | some d, some l => pbuild d l
    | _, _ => .no
  | .call ⟨.builtin b, args, ats⟩ => match b with
    | .len => match args.toList, ats.toList with
      | [x], [t] => match ev x with
        | some x => plen C.tab t x
        | none => .no
      | _, _ => .no
    | .min | .max => match args.toList with
      | [x, y] => match ev x, ev y with
        | some x, some y => pmm b x y
        | _, _ => .no
      | _ => .no
    | _ => .no
  | _ => .no

/-- An operation at an act: it yields a value, and the world is as it was. -/
def Does (P : Program) (a : Operand → Value) (w : World) (o : Oper) (v : Value) : Prop := (execOp a o).run P w = .ok (.value v) w

section
variable {C : Cx} {ρ : List Nat} {H : Heap} {w : World} {a : Operand → Value} {ev evT evF : Operand → Option SV} {o : Oper}
/-- What is told of operands is so. -/
def Tells (ρ : List Nat) (ev : Operand → Option SV) (a : Operand → Value) : Prop := ∀ x s, ev x = some s → wf ρ.length s = true ∧ a x = conc ρ s

theorem aggL_spec {x : SV} {l : List SV} (h : aggL x = some l) (hw : wf ρ.length x = true) : conc ρ x = .agg ⟨concs ρ l⟩ ∧ wfs ρ.length l = true := by
  cases x with
  | a l' => simp only [aggL, Option.some.injEq] at h; subst h; exact ⟨rfl, hw⟩
  | v y =>
    cases y with
    | agg cs =>
      obtain ⟨l'⟩ := cs
      simp only [aggL, Option.some.injEq] at h
      subst h
      have e : ∀ l' : List Value, concs ρ (l'.map .v) = l' ∧ wfs ρ.length (l'.map .v) = true := by
        intro l'
        induction l' with
        | nil => exact ⟨rfl, rfl⟩
        | cons y r ih => exact ⟨by simp only [List.map_cons, concs, conc, ih.1], by simp only [List.map_cons, wfs, wf, ih.2]; rfl⟩
      exact ⟨by simp only [conc, (e l').1], (e l').2⟩
    | _ => cases h
  | _ => cases h
theorem tupL_spec {x : SV} {l : List SV} (h : tupL x = some l) (hw : wf ρ.length x = true) : conc ρ x = .tuple ⟨concs ρ l⟩ ∧ wfs ρ.length l = true := by
  cases x with
  | t l' => simp only [tupL, Option.some.injEq] at h; subst h; exact ⟨rfl, hw⟩
  | v y =>
    cases y with
    | tuple cs =>
      obtain ⟨l'⟩ := cs
      simp only [tupL, Option.some.injEq] at h
      subst h
      have e : ∀ l' : List Value, concs ρ (l'.map .v) = l' ∧ wfs ρ.length (l'.map .v) = true := by
        intro l'
        induction l' with
        | nil => exact ⟨rfl, rfl⟩
        | cons y r ih => exact ⟨by simp only [List.map_cons, concs, conc, ih.1], by simp only [List.map_cons, wfs, wf, ih.2]; rfl⟩
      exact ⟨by simp only [conc, (e l').1], (e l').2⟩
    | _ => cases h
  | _ => cases h
theorem evL_spec (ht : Tells ρ ev a) : ∀ {xs : List Operand} {l : List SV}, evL ev xs = some l → xs.map a = concs ρ l ∧ wfs ρ.length l = true := by
  intro xs
  induction xs with
  | nil => intro l h; simp only [evL, Option.some.injEq] at h; subst h; exact ⟨rfl, rfl⟩
  | cons x r ih =>
    intro l h
    simp only [evL] at h
    cases hx : ev x with
    | none => rw [hx] at h; cases h
    | some s =>
      cases hr : evL ev r with
      | none => rw [hx, hr] at h; cases h
      | some m =>
        simp only [hx, hr, Option.some.injEq] at h
        subst h
        obtain ⟨h1, h2⟩ := ht x s hx
        obtain ⟨h3, h4⟩ := ih hr
        exact ⟨by simp only [List.map_cons, concs, h2, h3], by simp only [wfs, h1, h4]; rfl⟩
/-- What a result says. -/
def PR.Good (P : Program) (ρ : List Nat) (a : Operand → Value) (w : World) (o : Oper) : PR → Prop
  | .ok s => wf ρ.length s = true ∧ Does P a w o (conc ρ s)
  | .side p s => wf ρ.length s = true ∧ (p → Does P a w o (conc ρ s))
  | .no => True
theorem ofO_good {s : Option SV} (h : ∀ x, s = some x → wf ρ.length x = true ∧ Does C.P a w o (conc ρ x)) : (ofO s).Good C.P ρ a w o := by
  cases s with
  | none => trivial
  | some x => cases x <;> exact h _ rfl

theorem toList_eq_iff (x y : ByteArray) : (x.toList == y.toList) = decide (x = y) := by
  rw [Bool.eq_iff_iff, beq_iff_eq, decide_eq_true_eq]
  constructor
  · intro h
    rw [ByteArray.toList_eq, ByteArray.toList_eq] at h
    cases x; cases y
    congr 1
    exact Array.toList_inj.1 h
  · intro h; rw [h]

theorem pint_good {b : BinOp} {xt yt : Nat} {x y : Operand} {k : IntKind} {p q : Int} {d t pos af g} (hx : a x = .int k p) (hy : a y = .int k q) : (pint b k p q).Good C.P ρ a w ⟨d, .binOp b xt x y yt, t, pos, af, g⟩ := by
  cases b <;> simp only [pint, PR.Good, arith] <;> first | trivial | skip
  · exact ⟨rfl, fun h => by simp [Does, execOp, hx, hy, go_sem, conc, wrap_in h]⟩
  · exact ⟨rfl, fun h => by simp [Does, execOp, hx, hy, go_sem, conc, wrap_in h]⟩
  · exact ⟨rfl, fun h => by simp [Does, execOp, hx, hy, go_sem, conc, wrap_in h]⟩
  · refine ⟨rfl, fun h => ?_⟩
    have h1 : ¬ q = 0 := by omega
    have h2 : p.tdiv q = p / q := Int.tdiv_eq_ediv_of_nonneg h.1
    simp [Does, execOp, hx, hy, go_sem, conc, Op.intDiv, h1, h2, wrap_in h.2.2]
  · refine ⟨rfl, fun h => ?_⟩
    have h1 : ¬ q = 0 := by omega
    have h2 : p.tmod q = p % q := Int.tmod_eq_emod_of_nonneg h.1
    simp [Does, execOp, hx, hy, go_sem, conc, Op.intDiv, h1, h2]
  all_goals exact ⟨rfl, by simp [Does, execOp, hx, hy, go_sem, conc]; try rfl⟩
theorem pshift_good {b : BinOp} {xt yt : Nat} {x y : Operand} {k k' : IntKind} {p q : Int} {d t pos af g} (hx : a x = .int k p) (hy : a y = .int k' q) : (pshift b k p q).Good C.P ρ a w ⟨d, .binOp b xt x y yt, t, pos, af, g⟩ := by
  cases b <;> simp only [pshift, PR.Good] <;> first | trivial | skip
  · refine ⟨rfl, fun h => ?_⟩
    have h1 : ¬ q < 0 := by omega
    simp [Does, execOp, hx, hy, eqGuard, binOp, Op.shift, h1, conc]
  · refine ⟨rfl, fun h => ?_⟩
    have h1 : ¬ q < 0 := by omega
    simp [Does, execOp, hx, hy, eqGuard, binOp, Op.shift, h1, conc]
theorem pbool_good {b : BinOp} {xt yt : Nat} {x y : Operand} {p q : Bool} {d t pos af g} (hu : C.P.underlying xt = some .bool) (hx : a x = .bool p) (hy : a y = .bool q) : (pbool b p q).Good C.P ρ a w ⟨d, .binOp b xt x y yt, t, pos, af, g⟩ := by
  cases b <;> simp only [pbool, PR.Good] <;> first | trivial | exact ⟨rfl, by simp [Does, execOp, hx, hy, go_sem, conc, hu]⟩
theorem pstr_good {b : BinOp} {xt yt : Nat} {x y : Operand} {p q : ByteArray} {d t pos af g} (hx : a x = .string p) (hy : a y = .string q) : (pstr b p q).Good C.P ρ a w ⟨d, .binOp b xt x y yt, t, pos, af, g⟩ := by
  cases b <;> simp only [pstr, PR.Good] <;> first | trivial | exact ⟨rfl, by simp [Does, execOp, hx, hy, go_sem, conc, binOp, Op.stringOp, ← toList_eq_iff]⟩
theorem pnil_good {b : BinOp} {xt yt el : Nat} {x y : Operand} {p : Option Addr} {d t pos af g} (hu : C.P.underlying xt = some (.pointer el)) (hx : a x = .pointer p) (hy : a y = .pointer none) : (pnil b p.isNone).Good C.P ρ a w ⟨d, .binOp b xt x y yt, t, pos, af, g⟩ := by
  have hp : C.P.underlying xt = some (.pointer (C.P.pointee xt)) := by rw [hu]; simp [Program.pointee, hu]
  cases b <;> simp only [pnil, PR.Good] <;> first | trivial | exact ⟨rfl, by simp [Does, execOp, hx, hy, conc, run_eql_pointer_nil _ _ _ hp, run_neq_pointer_nil _ _ _ hp, go_sem]⟩

theorem run_equalIn_slice_nil {P : Program} (w : World) (d : Nat) (t el : TypeId) (p : Option Addr) (m c m' c' : Nat) (h : P.underlying t = some (.slice el)) : (Op.equalIn (d + 1) t (.slice p m c) (.slice none m' c')).run P w = .ok p.isNone w := by
  cases p <;> simp [Op.equalIn, run_underlying h]
theorem run_equal_slice_nil {P : Program} (w : World) (t el : TypeId) (p : Option Addr) (m c m' c' : Nat) (h : P.underlying t = some (.slice el)) : (Op.equal t (.slice p m c) (.slice none m' c')).run P w = .ok p.isNone w := run_equalIn_slice_nil w 9999 t el p m c m' c' h
theorem run_eql_slice_nil {P : Program} (w : World) (t el : TypeId) (p : Option Addr) (m c m' c' : Nat) (h : P.underlying t = some (.slice el)) : (binOp .eql t (.slice p m c) (.slice none m' c')).run P w = .ok (.bool p.isNone) w := by
  simp only [binOp]
  simp [run_equal_slice_nil w t el p m c m' c' h]
theorem run_neq_slice_nil {P : Program} (w : World) (t el : TypeId) (p : Option Addr) (m c m' c' : Nat) (h : P.underlying t = some (.slice el)) : (binOp .neq t (.slice p m c) (.slice none m' c')).run P w = .ok (.bool (!p.isNone)) w := by
  simp only [binOp]
  simp [run_equal_slice_nil w t el p m c m' c' h]
theorem pnilS_good {b : BinOp} {xt yt el : Nat} {x y : Operand} {p : Option Addr} {m c m' c' : Nat} {d t pos af g} (hu : C.P.underlying xt = some (.slice el)) (hx : a x = .slice p m c) (hy : a y = .slice none m' c') : (pnil b p.isNone).Good C.P ρ a w ⟨d, .binOp b xt x y yt, t, pos, af, g⟩ := by
  cases b <;> simp only [pnil, PR.Good] <;> first | trivial | exact ⟨rfl, by simp [Does, execOp, hx, hy, conc, eqGuard, run_eql_slice_nil w xt el p m c m' c' hu, run_neq_slice_nil w xt el p m c m' c' hu]⟩
theorem pbin_good {b : BinOp} {xt yt : Nat} {x y : Operand} {sx sy : SV} {d t pos af g} (hC : C.Ok) (hx : a x = conc ρ sx) (hy : a y = conc ρ sy) : (pbin C.tab b xt sx sy).Good C.P ρ a w ⟨d, .binOp b xt x y yt, t, pos, af, g⟩ := by
  have tk1 : Nat.beq (isTK (tget C.tab xt)) 1 = true → C.P.underlying xt = some .bool := by
    intro h
    cases hd : tget C.tab xt with
    | none => rw [hd] at h; cases h
    | some td =>
      have hk := (hC.tab.get hd).k
      obtain ⟨_, _, _, k⟩ := td
      rw [hd] at h
      cases k <;> first | exact hk | cases h
  have tk2 : Nat.beq (isTK (tget C.tab xt)) 2 = true → ∃ el, C.P.underlying xt = some (.pointer el) := by
    intro h
    cases hd : tget C.tab xt with
    | none => rw [hd] at h; cases h
    | some td =>
      have hk := (hC.tab.get hd).k
      obtain ⟨_, _, _, k⟩ := td
      rw [hd] at h
      cases k <;> first | exact hk | cases h
  have tk3 : Nat.beq (isTK (tget C.tab xt)) 3 = true → ∃ el, C.P.underlying xt = some (.slice el) := by
    intro h
    cases hd : tget C.tab xt with
    | none => rw [hd] at h; cases h
    | some td =>
      have hk := (hC.tab.get hd).k
      obtain ⟨_, _, _, k⟩ := td
      rw [hd] at h
      cases k <;> first | exact ⟨_, hk.1⟩ | cases h
  unfold pbin
  split
  · rename_i k p k' q
    cases hsh : isShift b with
    | true => exact pshift_good hx hy
    | false =>
      cases hk : ikEq k k' with
      | false => trivial
      | true => have := ikEq_eq hk; subst this; exact pint_good hx hy
  · cases hk : Nat.beq (isTK (tget C.tab xt)) 1 with
    | false => trivial
    | true => exact pbool_good (tk1 hk) hx hy
  · exact pstr_good hx hy
  · cases hk : Nat.beq (isTK (tget C.tab xt)) 2 with
    | false => trivial
    | true => obtain ⟨el, he⟩ := tk2 hk; exact pnil_good he hx hy
  · cases hk : Nat.beq (isTK (tget C.tab xt)) 2 with
    | false => trivial
    | true => obtain ⟨el, he⟩ := tk2 hk; exact pnil_good he hx hy
  · cases hk : Nat.beq (isTK (tget C.tab xt)) 3 with
    | false => trivial
    | true => obtain ⟨el, he⟩ := tk3 hk; exact pnilS_good he hx hy
  · trivial

theorem Does.of_opT {P : Program} {e : Env} {o : Oper} {v : Value} (he : Knows e a) (h : ∀ ρ', Knows e ρ' → (execOp ρ' o).run P w = .ok (.value v) w) : Does P a w o v := h a he

theorem plen_good {x : Operand} {sx : SV} {st : Nat} {d t pos af g} (hC : C.Ok) (hx : a x = conc ρ sx) : (plen C.tab st sx).Good C.P ρ a w ⟨d, .call ⟨.builtin .len, #[x], #[st]⟩, t, pos, af, g⟩ := by
  unfold plen
  split
  · rename_i hd
    have hk : C.P.underlying st = some (.slice _) ∧ _ := (hC.tab.get hd).k
    exact ⟨rfl, by simp [Does, execOp, resolve, invoke, builtin, Builtin.len_, hx, run_underlying hk.1, goInt, conc]⟩
  · rename_i hd
    have hk : C.P.underlying st = some .string := (hC.tab.get hd).k
    exact ⟨rfl, by simp [Does, execOp, resolve, invoke, builtin, Builtin.len_, hx, run_underlying hk, goInt, conc]⟩
  · trivial
theorem pmm_good {b : Builtin} {x y : Operand} {sx sy : SV} {ats : Array TypeId} {d t pos af g} (hx : a x = conc ρ sx) (hy : a y = conc ρ sy) : (pmm b sx sy).Good C.P ρ a w ⟨d, .call ⟨.builtin b, #[x, y], ats⟩, t, pos, af, g⟩ := by
  unfold pmm
  split
  · rename_i k p k' q
    cases hk : ikEq k k' with
    | false => trivial
    | true =>
      have := ikEq_eq hk; subst this
      simp only [conc] at hx hy
      cases b <;> simp only [cond_true] <;> first | trivial | skip
      · exact ⟨rfl, by simp [Does, execOp, resolve, invoke, builtin, Builtin.max_, Builtin.max2, hx, hy, conc]⟩
      · exact ⟨rfl, by simp [Does, execOp, resolve, invoke, builtin, Builtin.min_, Builtin.min2, hx, hy, conc]⟩
  · trivial
theorem pindex_good {x y : Operand} {sx sy : SV} {st : Nat} {td : TD} {d t pos af g} (hC : C.Ok) (hd : tget C.tab st = some td) (hx : a x = conc ρ sx) (hy : a y = conc ρ sy) : (pindex td sx sy).Good C.P ρ a w ⟨d, .index st x y, t, pos, af, g⟩ := by
  have hk := (hC.tab.get hd).k
  obtain ⟨_, _, _, k⟩ := td
  unfold pindex
  split
  · rename_i k' i
    simp only [conc] at hy
    split
    · rename_i s hkk
      have hk2 : C.P.underlying st = some .string := by
        simp only at hkk
        subst hkk; exact hk
      simp only [conc] at hx
      refine ⟨rfl, fun hi => ?_⟩
      have hi2 : i.toNat < s.size := by omega
      have hb : s[i.toNat]? = some s[i.toNat]! := by rw [getElem?_pos s i.toNat hi2, getElem!_pos s i.toNat hi2]
      simp [Does, execOp, Instr.index, asIntOf, hx, hy, run_underlying hk2, hi.1, hb, conc]
    · trivial
  · trivial

theorem cellsS_spec {s : SV} {cs : List SV} (h : cellsS s = some cs) (hw : wf ρ.length s = true) : (conc ρ s).cells.toList = concs ρ cs ∧ wfs ρ.length cs = true := by
  cases s with
  | a l => simp only [cellsS, Option.some.injEq] at h; subst h; exact ⟨rfl, hw⟩
  | p k off => simp only [cellsS, Option.some.injEq] at h; subst h; exact ⟨rfl, by simp only [wfs, hw]; rfl⟩
  | f g u v => simp only [cellsS, Option.some.injEq] at h; subst h; exact ⟨rfl, by simp only [wfs, hw]; rfl⟩
  | t l => simp [cellsS] at h
  | v x =>
    have one : ∀ y : Value, y.cells = #[y] → some [SV.v y] = some cs → (conc ρ (.v y)).cells.toList = concs ρ cs ∧ wfs ρ.length cs = true := by
      intro y hy hc
      simp only [Option.some.injEq] at hc
      subst hc
      exact ⟨by simp only [conc, hy, concs], rfl⟩
    cases x with
    | agg l =>
      obtain ⟨hc, hw'⟩ := aggL_spec (ρ := ρ) (x := .v (.agg l)) (l := cs) h rfl
      exact ⟨by rw [hc]; rfl, hw'⟩
    | tuple l => simp [cellsS] at h
    | _ => exact one _ rfl h
theorem fold_set : ∀ (us : List Value) (off k : Nat) (cs : List Value), off + k + us.length ≤ cs.length →
    (us.zipIdx k).foldl (fun (cs : Array Value) (p : Value × Nat) => cs.setIfInBounds (off + p.2) p.1) cs.toArray = (cs.take (off + k) ++ us ++ cs.drop (off + k + us.length)).toArray
  | [], off, k, cs, h => by simp
  | u :: us, off, k, cs, h => by
    simp only [List.length_cons] at h
    rw [List.zipIdx_cons, List.foldl_cons]
    have h1 : cs.toArray.setIfInBounds (off + k) u = (cs.set (off + k) u).toArray := by simp
    rw [h1, fold_set us off (k + 1) _ (by simp; omega)]
    congr 1
    have e1 : (cs.set (off + k) u).take (off + (k + 1)) = cs.take (off + k) ++ [u] := by
      rw [show off + (k + 1) = off + k + 1 by omega, List.take_succ_eq_append_getElem (by simp; omega), List.take_set_of_le (Nat.le_refl _)]
      simp
    have e2 : (cs.set (off + k) u).drop (off + (k + 1) + us.length) = cs.drop (off + k + (u :: us).length) := by
      rw [List.drop_set_of_lt (by omega)]
      congr 1
      simp only [List.length_cons]; omega
    rw [e1, e2]; simp
theorem pfill_spec {fs : List FD} : ∀ {ps : List (Nat × SV)} {cs r : List SV}, pfill fs cs ps = some r → wfs ρ.length cs = true → (∀ i s, (i, s) ∈ ps → wf ρ.length s = true) →
    wfs ρ.length r = true ∧ Instr.fill ((fs.map fun d => (d.off, d.size)).toArray[·]?) (concs ρ cs).toArray (ps.map fun p => (p.1, conc ρ p.2)) = some (concs ρ r).toArray
  | [], cs, r, h, hw, _ => by simp only [pfill, Option.some.injEq] at h; subst h; exact ⟨hw, rfl⟩
  | (i, s) :: ps, cs, r, h, hw, hp => by
    simp only [pfill] at h
    split at h
    · rename_i off sz ag us hf hus
      cases hc : (Nat.beq us.length sz && Nat.ble (off + sz) cs.length) with
      | false => rw [hc] at h; cases h
      | true =>
        rw [hc] at h
        simp only [cond_true] at h
        simp only [Bool.and_eq_true] at hc
        have c1 := Nat.eq_of_beq_eq_true hc.1
        have c2 := Nat.le_of_ble_eq_true hc.2
        obtain ⟨e1, e2⟩ := cellsS_spec (ρ := ρ) hus (hp i s (by simp))
        obtain ⟨g1, g2⟩ := pfill_spec h (wfs_append (wfs_append (wfs_take hw _) e2) (wfs_drop hw _)) (fun j s' hm => hp j s' (by simp [hm]))
        refine ⟨g1, ?_⟩
        have e3 : (conc ρ s).cells = (concs ρ us).toArray := by rw [← e1]
        have hpl : ((fs.map fun d => (d.off, d.size)).toArray[i]?) = some (off, sz) := by simp [hf]
        simp only [List.map_cons, Instr.fill, hpl]
        have hsz : (conc ρ s).cells.size = sz := by rw [e3]; simp [concs_length, c1]
        have hcs : (concs ρ cs).toArray.size = cs.length := by simp [concs_length]
        rw [if_neg (by simp only [hsz, hcs, ne_eq, not_true_eq_false, decide_false, Bool.false_or, decide_eq_true_eq]; omega)]
        rw [← g2]
        congr 1
        rw [e3]
        have := fold_set (concs ρ us) off 0 (concs ρ cs) (by rw [concs_length, concs_length]; omega)
        simp only [Nat.add_zero] at this
        rw [concs_length, c1] at this
        rw [concs_append, concs_append, concs_take, concs_drop]
        simpa using this
    · cases h
theorem evParts_spec (ht : Tells ρ ev a) : ∀ {ps : List (Nat × Operand)} {l : List (Nat × SV)}, evParts ev ps = some l → ps.map (fun (i, x) => (i, a x)) = l.map (fun p => (p.1, conc ρ p.2)) ∧ ∀ i s, (i, s) ∈ l → wf ρ.length s = true
  | [], l, h => by simp only [evParts, Option.some.injEq] at h; subst h; exact ⟨rfl, fun i s hm => by cases hm⟩
  | (i, x) :: r, l, h => by
    simp only [evParts] at h
    split at h
    · rename_i s m hs hm
      simp only [Option.some.injEq] at h
      subst h
      obtain ⟨h1, h2⟩ := ht x s hs
      obtain ⟨h3, h4⟩ := evParts_spec ht hm
      refine ⟨by simp only [List.map_cons, h2]; rw [h3], fun j s' hm' => ?_⟩
      rcases List.mem_cons.1 hm' with e | hm'
      · cases e; exact h1
      · exact h4 j s' hm'
    · cases h
theorem pev_good (hC : C.Ok) (ht : Tells ρ ev a) (hH : Holds ρ H w)
    (hT : ∀ c x y, o.op = .pick c x y → a c = .bool true → ∀ s, evT x = some s → wf ρ.length s = true ∧ a x = conc ρ s)
    (hF : ∀ c x y, o.op = .pick c x y → a c = .bool false → ∀ s, evF y = some s → wf ρ.length s = true ∧ a y = conc ρ s) : (pev C ev evT evF H o.op).Good C.P ρ a w o := by
  obtain ⟨d, op, t, pos, af, g⟩ := o
  cases op <;> simp only [pev] <;> first | trivial | skip
  case move x => exact ofO_good fun s hs => ⟨(ht x s hs).1, by simp [Does, execOp, (ht x s hs).2]⟩
  case assign x => exact ofO_good fun s hs => ⟨(ht x s hs).1, by simp [Does, execOp, (ht x s hs).2]⟩
  case pick c x y =>
    split
    · rename_i q u v hc hx hy
      refine ⟨rfl, ?_⟩
      have hcv : a c = .bool q := (ht c _ hc).2
      cases q with
      | true => simp [Does, execOp, hcv, asBool, (hT c x y rfl hcv _ hx).2, conc, sel]
      | false => simp [Does, execOp, hcv, asBool, (hF c x y rfl hcv _ hy).2, conc, sel]
    · trivial
  case binOp b xt x y yt =>
    split
    · rename_i sx sy hx hy
      exact pbin_good hC (ht x _ hx).2 (ht y _ hy).2
    · trivial
  case unOp u xt x =>
    cases u <;> simp only <;> first | trivial | skip
    split
    · rename_i q hx
      refine ⟨rfl, ?_⟩
      have := (ht x _ hx).2
      simp only [conc] at this
      simp [Does, execOp, this, Op.unary, conc]
    · trivial
  case extract x i =>
    split
    · rename_i sx hx
      obtain ⟨h1, h2⟩ := ht x _ hx
      split
      · rename_i l hl
        obtain ⟨h3, h4⟩ := tupL_spec (ρ := ρ) hl h1
        refine ofO_good fun s hs => ⟨wfs_get h4 hs, ?_⟩
        have : (concs ρ l)[i]? = some (conc ρ s) := by rw [concs_get, hs]; rfl
        simp [Does, execOp, h2, h3, Instr.extract, this]
      · trivial
    · trivial
  case nilCheck x =>
    split
    · rename_i k off hx
      obtain ⟨h1, h2⟩ := ht x _ hx
      exact ⟨h1, by simp [Does, execOp, h2, conc]⟩
    · rename_i p hx
      obtain ⟨h1, h2⟩ := ht x _ hx
      exact ⟨h1, by simp [Does, execOp, h2, conc]⟩
    · rename_i g' u v hx
      obtain ⟨h1, h2⟩ := ht x _ hx
      exact ⟨h1, by simp [Does, execOp, h2, conc]⟩
    · trivial
  case fieldAddr s x i =>
    split
    · rename_i k off _ _ _ fs hx hd
      obtain ⟨h1, h2⟩ := ht x _ hx
      obtain ⟨⟨fs'⟩, hu, hfd⟩ : ∃ fs', _ := (hC.tab.get hd).k
      split
      · rename_i fo fz fa hf
        obtain ⟨fd, e1, e2, e3, e4⟩ := hfd.get hf
        simp only at e2 e3
        cases hz : Nat.blt 0 fz with
        | false => trivial
        | true =>
          obtain ⟨n, rfl⟩ : ∃ n, fz = n + 1 := ⟨fz - 1, by simp [Nat.blt_eq] at hz; omega⟩
          refine ⟨h1, ?_⟩
          simp only [conc] at h2
          simp [Does, execOp, h2, Instr.fieldAt, run_underlying hu, show fs'[i]? = some fd from e1, Instr.sureAddr, fieldPlace, e3, e2, Addr.add_lit, conc]
      · trivial
    · rename_i p _ _ _ fs hx hd
      obtain ⟨h1, h2⟩ := ht x _ hx
      obtain ⟨⟨fs'⟩, hu, hfd⟩ : ∃ fs', _ := (hC.tab.get hd).k
      split
      · rename_i fo fz fa hf
        obtain ⟨fd, e1, e2, e3, e4⟩ := hfd.get hf
        simp only at e2 e3
        cases hz : Nat.blt 0 fz with
        | false => trivial
        | true =>
          obtain ⟨n, rfl⟩ : ∃ n, fz = n + 1 := ⟨fz - 1, by simp [Nat.blt_eq] at hz; omega⟩
          refine ⟨rfl, ?_⟩
          simp only [conc] at h2
          simp [Does, execOp, h2, Instr.fieldAt, run_underlying hu, show fs'[i]? = some fd from e1, Instr.sureAddr, fieldPlace, e3, e2, conc]
      · trivial
    · trivial
  case field s x i =>
    split
    · rename_i sx _ _ _ fs hx hd
      obtain ⟨h1, h2⟩ := ht x _ hx
      obtain ⟨⟨fs'⟩, hu, hfd⟩ : ∃ fs', _ := (hC.tab.get hd).k
      split
      · rename_i l hl
        obtain ⟨h3, h4⟩ := aggL_spec (ρ := ρ) hl h1
        unfold pfield
        split
        · rename_i fo fz fa hf
          obtain ⟨fd, e1, e2, e3, e4⟩ := hfd.get hf
          simp only at e2 e3 e4
          cases fa with
          | true =>
            refine ⟨wfs_take (wfs_drop h4 _) _, ?_⟩
            simp [Does, execOp, h2, h3, Instr.field, run_underlying hu, show fs'[i]? = some fd from e1, part, e4 w, e3 w, asAgg, e2, conc, concs_take, concs_drop]
          | false =>
            refine ofO_good fun s' hs => ⟨wfs_get h4 hs, ?_⟩
            have : (concs ρ l)[fo]? = some (conc ρ s') := by rw [concs_get, hs]; rfl
            simp [Does, execOp, h2, h3, Instr.field, run_underlying hu, show fs'[i]? = some fd from e1, part, e4 w, asAgg, e2, this]
        · trivial
      · trivial
    · trivial
  case load u x =>
    split
    · rename_i k off td hx hd
      obtain ⟨h1, h2⟩ := ht x _ hx
      simp only [conc] at h2
      have hag := (hC.tab.get hd).agg
      have hsz := (hC.tab.get hd).size
      split
      · rename_i l hl
        have hB := hH.box k l hl
        obtain ⟨_, hw⟩ := hH.ok k l hl
        unfold pload
        split
        · rename_i hagg
          rw [hagg] at hag
          cases hle : Nat.ble (off + td.size) l.length with
          | false => trivial
          | true =>
            have hle' : off + td.size ≤ l.length := Nat.le_of_ble_eq_true hle
            refine ⟨wfs_take (wfs_drop hw _) _, ?_⟩
            have hr := (hB.rowAt off).take td.size
            have hlen : ((concs ρ l).drop off |>.take td.size).length = td.size := by
              rw [List.length_take, List.length_drop, concs_length]; omega
            have hrun := run_loadCells_list (P := C.P) w ⟨adr ρ k, off, none⟩ _ hr
            rw [hlen] at hrun
            simp [Does, execOp, h2, Instr.loadAt, Instr.sureAddr, loadVar, hag w, hsz w, hrun, conc, concs_take, concs_drop]
        · rename_i hagg
          rw [hagg] at hag
          refine ofO_good fun s hs => ⟨wfs_get hw hs, ?_⟩
          have : w.cell? ⟨adr ρ k, off, none⟩ = some (conc ρ s) := by rw [hB.cell, concs_get, hs]; rfl
          simp [Does, execOp, h2, Instr.loadAt, Instr.sureAddr, loadVar, hag w, this]
      · trivial
    · trivial
  case makeFunc fn fs cs =>
    cases fn <;> simp only <;> first | trivial | skip
    split
    · rename_i u v h1 h2
      obtain ⟨e1, w1⟩ := evL_spec ht h1
      obtain ⟨e2, w2⟩ := evL_spec ht h2
      refine ⟨by simp only [wf, w1, w2]; rfl, ?_⟩
      obtain ⟨fs⟩ := fs
      obtain ⟨cs⟩ := cs
      simp only at e1 e2
      simp [Does, execOp, Instr.makeFunc, conc, e1, e2]
    · trivial
  case index st x y =>
    split
    · rename_i sx sy td hx hy hd
      exact pindex_good hC hd (ht x _ hx).2 (ht y _ hy).2
    · trivial
  case convert s u x =>
    split
    · rename_i k' n k1 k hx hs hu
      obtain ⟨h1, h2⟩ := ht x _ hx
      simp only [conc] at h2
      have hku : ∀ t k, kindOfT (tget C.tab t) = some k → C.P.underlying t = some (.int k) := by
        intro t k h
        cases hd : tget C.tab t with
        | none => rw [hd] at h; cases h
        | some td =>
          have hk := (hC.tab.get hd).k
          obtain ⟨_, _, _, kk⟩ := td
          rw [hd] at h
          cases kk <;> first | (cases h; exact hk) | cases h
      cases hb : Nat.blt k.bits k1.bits with
      | true => exact ⟨rfl, by simp [Does, execOp, h2, convert, run_underlying (hku _ _ hs), run_underlying (hku _ _ hu), Conv.intToInt, conc]⟩
      | false =>
        refine ⟨rfl, fun hin => ?_⟩
        simp [Does, execOp, h2, convert, run_underlying (hku _ _ hs), run_underlying (hku _ _ hu), Conv.intToInt, wrap_in hin, conc]
    · trivial
  case build bt ps =>
    obtain ⟨ps⟩ := ps
    split
    · rename_i td l hd hl
      obtain ⟨h1, h2⟩ := evParts_spec ht hl
      obtain ⟨z, hz, hzz⟩ := (hC.tab.get hd).zero
      have hk := (hC.tab.get hd).k
      unfold pbuild
      split
      · rename_i fs hkk
        rw [hkk] at hk
        obtain ⟨⟨fs'⟩, hu, hfd⟩ := hk
        split
        · rename_i cs hcs
          rw [laid_eq]
          have ez : ∀ l' : List Value, concs ρ (l'.map .v) = l' ∧ wfs ρ.length (l'.map .v) = true := by
            intro l'
            induction l' with
            | nil => exact ⟨rfl, rfl⟩
            | cons y r ih => exact ⟨by simp only [List.map_cons, concs, conc, ih.1], by simp only [List.map_cons, wfs, wf, ih.2]; rfl⟩
          obtain ⟨g1, g2⟩ := pfill_spec (ρ := ρ) hcs (ez _).2 h2
          refine ⟨g1, ?_⟩
          rw [(ez _).1] at g2
          have hz' : z.cells = td.zero.toArray := by rw [← hzz]
          have hpl := hfd.places w
          have hm : ((⟨ps⟩ : Array (Nat × Operand)).map fun (i, x) => (i, a x)) = (l.map fun p => (p.1, conc ρ p.2)).toArray := by rw [← h1]; simp
          have hb : (Instr.build bt ((⟨ps⟩ : Array (Nat × Operand)).map fun (i, x) => (i, a x))).run C.P w = .ok (.agg (concs ρ cs).toArray) w := by
            rw [hm]
            simp only [Instr.build, Sem.run_bind, hz w, Result.andThen_ok, run_underlying hu, List.mapM_toArray, map_eq_pure_bind, Sem.run_pure]
            rw [hpl]
            simp only [Result.andThen_ok, hz']
            rw [g2]
            simp
          simp only [Does, execOp, Sem.run_bind, hb, Sem.run_pure, Result.andThen_ok]
          rfl
        · trivial
      · trivial
    · trivial
  case call c =>
    obtain ⟨cal, args, ats⟩ := c
    cases cal <;> simp only <;> first | trivial | skip
    rename_i b
    obtain ⟨args⟩ := args
    obtain ⟨ats⟩ := ats
    cases b <;> simp only <;> first | trivial | skip
    · match args, ats with
      | [x], [u] =>
        simp only
        split
        · rename_i sx hx; exact plen_good hC (ht x _ hx).2
        · trivial
      | [], _ | _ :: _ :: _, _ | [_], [] | [_], _ :: _ :: _ => trivial
    · match args with
      | [x, y] =>
        simp only
        split
        · rename_i sx sy hx hy; exact pmm_good (ht x _ hx).2 (ht y _ hy).2
        · trivial
      | [] | [_] | _ :: _ :: _ :: _ => trivial
    · match args with
      | [x, y] =>
        simp only
        split
        · rename_i sx sy hx hy; exact pmm_good (ht x _ hx).2 (ht y _ hy).2
        · trivial
      | [] | [_] | _ :: _ :: _ :: _ => trivial
end
end Go.Proofs.Bw
