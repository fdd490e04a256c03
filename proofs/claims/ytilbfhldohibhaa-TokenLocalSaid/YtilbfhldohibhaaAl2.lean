import Derived.Test.YtilbfhldohibhaaAl1
import Derived.ChangeKeysEq
import Derived.Laws.StructEq
set_option linter.unusedSimpArgs false
set_option linter.unusedVariables false
set_option linter.unnecessarySimpa false
namespace Go.AL
open Go

/-! ## Types as the rules see them -/
inductive TK where
  | bool | int (k : IntKind) | str | ptr (e : TypeId) | slice (e : TypeId) | arr (n : Nat) (e : TypeId) | struct (fs : List (Nat × TypeId)) | map (k e : TypeId) | func | iface | other

def TK.of : TypeDesc → TK
  | .bool => .bool
  | .int k => .int k
  | .string => .str
  | .pointer e => .ptr e
  | .slice e => .slice e
  | .array n e => .arr n e
  | .struct fs => .struct (fs.toList.map fun f => (f.offset, f.type))
  | .map k e => .map k e
  | .func _ _ _ => .func
  | .interface _ => .iface
  | _ => .other

def tk (P : Program) (t : TypeId) : TK := ((P.underlying t).map TK.of).getD .other
/-- cells of a type; bytes of a type -/
def sz (P : Program) (t : TypeId) : Option Nat := (P.underlying t).bind fun _ => (P.info? t).map (·.size)
def by' (P : Program) (t : TypeId) : Option Nat := (P.info? t).map (·.bytes)
def zro (P : Program) (t : TypeId) : Option (List Value) := (P.info? t).bind fun i => i.zero.map fun z => z.cells.toList

def TK.agg : TK → Bool
  | .struct _ => true
  | .arr _ _ => true
  | _ => false

def IV.ofVal (x : Value) : IV := .v x
def constAV : Value → AV
  | .agg cs => bif cs.toList.all Value.oneCell' then .agg (cs.toList.map fun c => .im (.v c)) else .top
  | .tuple _ => .top
  | x => .im (.v x)

def ev (E : Env) : Operand → Option AV
  | .tmp t => lk E t
  | .const v => some (constAV v)
  | .func f => some (.fn f [])
  | .global _ => none

def AV.g : AV → Bool
  | .opt g _ => g
  | _ => true
def AV.st : AV → AV
  | .opt _ x => x
  | x => x

/-- one operand, two operands: the guards are asked for -/
def un (f : AV → Option (Prop × AV)) : Option AV → Option (Prop × AV)
  | some a => match f a.st with
    | some (sc, v) => some (a.g = true ∧ sc, v)
    | none => none
  | none => none
def bi (f : AV → AV → Option (Prop × AV)) : Option AV → Option AV → Option (Prop × AV)
  | some a, some b => match f a.st b.st with
    | some (sc, v) => some (a.g = true ∧ b.g = true ∧ sc, v)
    | none => none
  | _, _ => none

def AV.i (k : IntKind) (n : Int) : AV := .im (.v (.int k n))
def AV.b (x : Bool) : AV := .im (.v (.bool x))
def AV.s (x : ByteArray) : AV := .im (.v (.string x))

def aInt (op : BinOp) (k : IntKind) (a b : Int) : Option (Prop × AV) :=
  match op with
  | .add => some (True, .im (.v (.int k (k.wrap (a + b)))))
  | .sub => some (True, .im (.v (.int k (k.wrap (a - b)))))
  | .mul => some (True, .im (.v (.int k (k.wrap (a * b)))))
  | .quo => some (b ≠ 0, .im (.v (.int k (k.wrap (a.tdiv b)))))
  | .rem => some (b ≠ 0, .im (.v (.int k (a.tmod b))))
  | .and => some (True, .im (.v (.int k (k.wrap (BitVec.ofInt k.bits a &&& BitVec.ofInt k.bits b).toNat))))
  | .or => some (True, .im (.v (.int k (k.wrap (BitVec.ofInt k.bits a ||| BitVec.ofInt k.bits b).toNat))))
  | .xor => some (True, .im (.v (.int k (k.wrap (BitVec.ofInt k.bits a ^^^ BitVec.ofInt k.bits b).toNat))))
  | .eql => some (True, .im (.v (.bool (a == b))))
  | .neq => some (True, .im (.v (.bool (a != b))))
  | .lss => some (True, .im (.v (.bool (decide (a < b)))))
  | .leq => some (True, .im (.v (.bool (decide (a ≤ b)))))
  | .gtr => some (True, .im (.v (.bool (decide (b < a)))))
  | .geq => some (True, .im (.v (.bool (decide (b ≤ a)))))
  | .shl => some (0 ≤ b, .im (.v (.int k (k.wrap (a * 2 ^ (min b.toNat k.bits))))))
  | .shr => some (0 ≤ b, .im (.v (.int k (a.fdiv (2 ^ (min b.toNat k.bits))))))
  | _ => none

def aStr (op : BinOp) (a b : ByteArray) : Option (Prop × AV) :=
  match op with
  | .add => some (a.size + b.size ≤ 9223372036854775807, .im (.v (.string (a ++ b))))
  | .eql => some (True, .im (.v (.bool (a.toList == b.toList))))
  | .neq => some (True, .im (.v (.bool (!(a.toList == b.toList)))))
  | .lss => some (True, .im (.v (.bool (Op.bytesLess a.toList b.toList))))
  | .geq => some (True, .im (.v (.bool (!(Op.bytesLess a.toList b.toList)))))
  | .leq => some (True, .im (.v (.bool (Op.bytesLess a.toList b.toList || a.toList == b.toList))))
  | .gtr => some (True, .im (.v (.bool (!(Op.bytesLess a.toList b.toList || a.toList == b.toList)))))
  | _ => none

def isShift : BinOp → Bool
  | .shl | .shr => true
  | _ => false

/-- nil or not: of a pointer or a slice -/
def nilness : AV → Option Bool
  | .im (.v (.pointer none)) => some true
  | .im (.v (.slice none _ _)) => some true
  | .im (.pt _) => some false
  | .ob _ _ => some false
  | .oe _ _ _ _ => some false
  | _ => none

/-- two cells of a plain type, compared; two structs or arrays of such cells -/
def eqC (k : TK) : AV → AV → Option Bool
  | .im (.v (.int a x)), .im (.v (.int b y)) => match k with
    | .int _ => bif decide (a = b) then some (x == y) else none
    | _ => none
  | .im (.v (.string x)), .im (.v (.string y)) => match k with
    | .str => some (x.toList == y.toList)
    | _ => none
  | .im (.v (.bool x)), .im (.v (.bool y)) => match k with
    | .bool => some (x == y)
    | _ => none
  | _, _ => none
def eqFs (P : Program) (xs ys : List AV) : List (Nat × TypeId) → Option Bool
  | [] => some true
  | (off, ty) :: r => match xs[off]?, ys[off]? with
    | some x, some y => match eqC (tk P ty) x y, eqFs P xs ys r with
      | some b, some c => some (b && c)
      | _, _ => none
    | _, _ => none
def aggOf : AV → Option (List AV)
  | .agg cs => some cs
  | .ar cs => some (cs.map .im)
  | _ => none
def eqOk (P : Program) (t : TypeId) : Bool := !(P.eqGuardType P.depth t) && match P.underlying t with
  | some (.struct fs) => fs.toList.all (fun f => f.name != "_") && !P.stoodInHeld t
  | some (.array _ _) => true
  | _ => false
def aEq (P : Program) (t : TypeId) (x y : AV) : Option Bool := match aggOf x, aggOf y, eqOk P t with
  | some xs, some ys, true => match tk P t with
    | .struct fs => eqFs P xs ys fs
    | .arr n e => match sz P e with
      | some 1 => eqFs P xs ys ((List.range n).map fun i => (i, e))
      | _ => none
    | _ => none
  | _, _, _ => none

def aBin (P : Program) (op : BinOp) (t : TypeId) : AV → AV → Option (Prop × AV)
  | .im (.v (.int k a)), .im (.v (.int k' b)) => bif isShift op || decide (k = k') then aInt op k a b else none
  | .im (.v (.string a)), .im (.v (.string b)) => aStr op a b
  | .im (.v (.bool a)), .im (.v (.bool b)) => match op, tk P t with
    | .eql, .bool => some (True, .im (.v (.bool (a == b))))
    | .neq, .bool => some (True, .im (.v (.bool (a != b))))
    | _, _ => none
  | x, y => match op with
    | .eql => match aEq P t x y with
      | some b => some (True, .im (.v (.bool b)))
      | none => none
    | .neq => match aEq P t x y with
      | some b => some (True, .im (.v (.bool (!b))))
      | none => none
    | _ => none

def aUn (op : UnOp) : AV → Option (Prop × AV)
  | .im (.v (.bool b)) => match op with
    | .not => some (True, .im (.v (.bool (!b))))
    | _ => none
  | .im (.v (.int k n)) => match op with
    | .neg => some (True, .im (.v (.int k (k.wrap (0 - n)))))
    | _ => none
  | _ => none

def pk (c x y : Bool) : Bool := bif c then x else y
theorem pk_t (c y : Bool) : pk c true y = (c || y) := by cases c <;> rfl
theorem pk_f (c x : Bool) : pk c x false = (c && x) := by cases c <;> rfl
theorem gs_f (x : Bool) : (x = false → (!x) = true) = True := by cases x <;> simp
theorem gs_t (x : Bool) : (x = true → x = true) = True := by simp
def aPick (c a b : AV) : Option (Prop × AV) := match c.st with
  | .im (.v (.bool cv)) => match a.st, b.st with
    | .im (.v (.bool x)), .im (.v (.bool y)) => some (c.g = true ∧ (cv = true → a.g = true) ∧ (cv = false → b.g = true), .im (.v (.bool (pk cv x y))))
    | _, _ => none
  | _ => none

def aConv (P : Program) (src dst : TypeId) : AV → Option (Prop × AV)
  | .im (.v (.int _ n)) => match tk P dst with
    | .int k => some (True, .im (.v (.int k (k.wrap n))))
    | _ => none
  | .im (.v (.string s)) => match tk P dst with
    | .str => some (True, .im (.v (.string s)))
    | _ => none
  | _ => none

def aLen (P : Program) (t : TypeId) : AV → Option (Prop × AV)
  | .im (.v (.string s)) => match tk P t with
    | .str => some (True, .im (.v (.int .i64 s.size)))
    | _ => none
  | .im (.v (.slice none n _)) => match tk P t with
    | .slice _ => some (True, .im (.v (.int .i64 n)))
    | _ => none
  | .im (.sl _ rows) => match tk P t with
    | .slice _ => some (True, .im (.v (.int .i64 rows.length)))
    | _ => none
  | .os _ _ _ n => match tk P t with
    | .slice _ => some (True, .im (.v (.int .i64 n)))
    | _ => none
  | _ => none

/-- s[i] of a string, of an array value of one-cell elements -/
def aIndex (P : Program) (t : TypeId) : AV → AV → Option (Prop × AV)
  | .ar cs, .im (.v (.int _ i)) => match tk P t with
    | .arr n e => match tk P e, sz P e with
      | .int _, some 1 => some (0 ≤ i ∧ i < n ∧ n ≤ cs.length, .im (cs.getD i.toNat (.v (.bool false))))
      | .str, some 1 => some (0 ≤ i ∧ i < n ∧ n ≤ cs.length, .im (cs.getD i.toNat (.v (.bool false))))
      | _, _ => none
    | _ => none
  | .im (.v (.string s)), .im (.v (.int _ i)) => match tk P t with
    | .str => some (0 ≤ i ∧ i < s.size, .im (.v (.int .u8 (s.data.toList.getD i.toNat 0).toNat)))
    | _ => none
  | _, _ => none

def aIndexAddr (P : Program) (t : TypeId) : AV → AV → Option (Prop × AV)
  | .im (.sl es rows), .im (.v (.int _ i)) => match tk P t with
    | .slice e => bif decide (sz P e = some es) then some (0 ≤ i ∧ i < rows.length, .im (.pt (rows.getD i.toNat []))) else none
    | _ => none
  | .os b es i0 n, .im (.v (.int _ i)) => match tk P t with
    | .slice e => bif decide (sz P e = some es) then some (0 ≤ i ∧ i < n, .oe b es (i0 + i.toNat) 0) else none
    | _ => none
  | .ob b off, .im (.v (.int _ i)) => match tk P t with
    | .arr n e => bif decide (2 ≤ n) then match sz P e with
      | some es => bif decide (off = 0) then some (0 ≤ i ∧ i < n, .oe b es i.toNat 0) else none
      | none => none
      else none
    | _ => none
  | _, _ => none

def fieldOff (P : Program) (t : TypeId) (f : Nat) : Option Nat :=
  match tk P t with
  | .struct fs => match fs[f]? with
    | some (off, ty) => match sz P ty with
      | some (n + 1) => some off
      | _ => none
    | none => none
  | _ => none

def aFieldAddr (P : Program) (t : TypeId) (f : Nat) : AV → Option (Prop × AV)
  | .im (.pt cs) => match fieldOff P t f with
    | some off => some (True, .im (.pt (cs.drop off)))
    | none => none
  | .ob b o => match fieldOff P t f with
    | some off => some (True, .ob b (o + off))
    | none => none
  | .oe b es i j => match fieldOff P t f with
    | some off => some (True, .oe b es i (j + off))
    | none => none
  | _ => none

def aNil : AV → Option (Prop × AV)
  | .im (.pt cs) => some (True, .im (.pt cs))
  | .ob b o => some (True, .ob b o)
  | .oe b es i j => some (True, .oe b es i j)
  | _ => none

/-- a value of type t of its cells -/
def mkVal (P : Program) (t : TypeId) (cs : List AV) : Option AV :=
  bif (tk P t).agg then some (.agg cs) else match cs with
  | [x] => some x
  | _ => none

/-- a value of type t of immutable cells -/
def mkValI (P : Program) (t : TypeId) (cs : List IV) : Option AV :=
  match tk P t with
  | .arr _ _ => some (.ar cs)
  | _ => mkVal P t (cs.map .im)

def aLoad (P : Program) (H : Heap) (t : TypeId) : AV → Option (Prop × AV)
  | .im (.pt cs) => match sz P t with
    | some n => match mkValI P t (cs.take n) with
      | some v => some (n ≤ cs.length, v)
      | none => none
    | none => none
  | .ob b o => match lk H b, sz P t with
    | some (.var _ cs), some n => match mkVal P t ((cs.drop o).take n) with
      | some v => some (o + n ≤ cs.length, v)
      | none => none
    | some (.vec _ _ rows), some n => bif Nat.beq o 0 then match tk P t with
      | .arr _ _ => some (rows.flatten.length = n, .ar rows.flatten)
      | _ => none
      else none
    | _, _ => none
  | .oe b es i j => match lk H b, sz P t with
    | some (.vec _ es' rows), some n => bif Nat.beq es es' then match mkValI P t (((rows.getD i []).drop j).take n) with
      | some v => some (i < rows.length ∧ j + n ≤ es, v)
      | none => none
      else none
    | _, _ => none
  | _ => none

def aField (P : Program) (t : TypeId) (f : Nat) : AV → Option (Prop × AV)
  | .agg cs => match tk P t with
    | .struct fs => match fs[f]? with
      | some (off, ty) => match sz P ty with
        | some n => match mkVal P ty ((cs.drop off).take n) with
          | some v => some (off + n ≤ cs.length, v)
          | none => none
        | none => none
      | none => none
    | _ => none
  | _ => none

def aExtract (i : Nat) : AV → Option (Prop × AV)
  | .tup vs => match vs[i]? with
    | some v => some (True, v)
    | none => none
  | _ => none

def aSlice (P : Program) (t : TypeId) (lo hi : Option AV) : AV → Option (Prop × AV)
  | .im (.v (.string s)) => match tk P t, lo, hi with
    | .str, some (.im (.v (.int _ l))), some (.im (.v (.int _ h))) => some (0 ≤ l ∧ l ≤ h ∧ h ≤ s.size, .im (.v (.string (s.extract l.toNat h.toNat))))
    | .str, some (.im (.v (.int _ l))), none => some (0 ≤ l ∧ l ≤ s.size, .im (.v (.string (s.extract l.toNat s.size))))
    | .str, none, some (.im (.v (.int _ h))) => some (0 ≤ h ∧ h ≤ s.size, .im (.v (.string (s.extract 0 h.toNat))))
    | _, _, _ => none
  | .im (.sl es rows) => match tk P t, lo, hi with
    | .slice e, some (.im (.v (.int _ l))), some (.im (.v (.int _ h))) => bif decide (sz P e = some es) then some (0 ≤ l ∧ l ≤ h ∧ h ≤ rows.length, .im (.sl es ((rows.take h.toNat).drop l.toNat))) else none
    | .slice e, some (.im (.v (.int _ l))), none => bif decide (sz P e = some es) then some (0 ≤ l ∧ l ≤ rows.length, .im (.sl es (rows.drop l.toNat))) else none
    | .slice e, none, some (.im (.v (.int _ h))) => bif decide (sz P e = some es) then some (0 ≤ h ∧ h ≤ rows.length, .im (.sl es (rows.take h.toNat))) else none
    | _, _, _ => none
  | _ => none

def aMin2 : AV → AV → Option (Prop × AV)
  | .im (.v (.int k a)), .im (.v (.int _ b)) => some (True, .im (.v (.int k (if b < a then b else a))))
  | _, _ => none
def aMax2 : AV → AV → Option (Prop × AV)
  | .im (.v (.int k a)), .im (.v (.int _ b)) => some (True, .im (.v (.int k (if a < b then b else a))))
  | _, _ => none

/-- a struct literal with all its fields, in order, or an empty one -/
def cellsOfAV : AV → Option (List AV)
  | .agg cs => some cs
  | .im x => some [.im x]
  | .ob b o => some [.ob b o]
  | .os b es i n => some [.os b es i n]
  | .oe b es i j => some [.oe b es i j]
  | .fn f caps => some [.fn f caps]
  | _ => none

def setAt (cs : List AV) (off : Nat) : List AV → List AV
  | [] => cs
  | x :: xs => setAt (cs.set off x) (off + 1) xs

def fillParts (place : Nat → Option (Nat × Nat)) (E : Env) (cs : List AV) : List (Nat × Operand) → Option (List AV)
  | [] => some cs
  | (i, x) :: rest => match place i, ev E x with
    | some (off, n), some a => match cellsOfAV a with
      | some ys => bif Nat.beq ys.length n && decide (off + n ≤ cs.length) then fillParts place E (setAt cs off ys) rest else none
      | none => none
    | _, _ => none

def placesOf (P : Program) : List (Nat × TypeId) → Option (List (Nat × Nat))
  | [] => some []
  | (off, ty) :: r => match sz P ty, placesOf P r with
    | some n, some l => some ((off, n) :: l)
    | _, _ => none

def aBuild (P : Program) (t : TypeId) (parts : List (Nat × Operand)) (E : Env) : Option (Prop × AV) :=
  match tk P t, zro P t with
  | .struct fs, some z => match placesOf P fs with
    | some pl => match fillParts (fun i => pl[i]?) E (z.map fun c => .im (.v c)) parts with
      | some cs => bif z.all Value.oneCell' then some (True, .agg cs) else none
      | none => none
    | none => none
  | .arr _ e, some z => match sz P e with
    | some n => match fillParts (fun i => some (i * n, n)) E (z.map fun c => .im (.v c)) parts with
      | some cs => bif z.all Value.oneCell' then some (True, .agg cs) else none
      | none => none
    | none => none
  | _, _ => none

/-- Operations that leave the world alone. -/
def aval (P : Program) (E : Env) (H : Heap) : Op → Option (Prop × AV)
  | .move x => match ev E x with
    | some a => some (True, a)
    | none => none
  | .assign x => match ev E x with
    | some a => some (True, a)
    | none => none
  | .pick c a b => match ev E c, ev E a, ev E b with
    | some c, some a, some b => aPick c a b
    | _, _, _ => none
  | .binOp op t x y _ => bi (aBin P op t) (ev E x) (ev E y)
  | .unOp op _ x => un (aUn op) (ev E x)
  | .convert s d x => un (fun a => match (P.underlying s).isSome with
    | true => aConv P s d a
    | false => none) (ev E x)
  | .nilCheck x => un aNil (ev E x)
  | .index t x i => bi (aIndex P t) (ev E x) (ev E i)
  | .indexAddr t x i => bi (aIndexAddr P t) (ev E x) (ev E i)
  | .fieldAddr t x f => un (aFieldAddr P t f) (ev E x)
  | .field t x f => un (aField P t f) (ev E x)
  | .load t x => un (aLoad P H t) (ev E x)
  | .extract x i => un (aExtract i) (ev E x)
  | .build t parts => aBuild P t parts.toList E
  | .call { callee := .builtin .len, args := args, argTypes := ts } => match args.toList, ts.toList with
    | [x], [t] => un (aLen P t) (ev E x)
    | _, _ => none
  | .call { callee := .builtin .min, args := args, .. } => match args.toList with
    | [x, y] => bi aMin2 (ev E x) (ev E y)
    | _ => none
  | .call { callee := .builtin .max, args := args, .. } => match args.toList with
    | [x, y] => bi aMax2 (ev E x) (ev E y)
    | _ => none
  | .slice t x lo hi none => match lo, hi with
    | some l, some h => match ev E l, ev E h with
      | some l, some h => un (aSlice P t (some l) (some h)) (ev E x)
      | _, _ => none
    | some l, none => match ev E l with
      | some l => un (aSlice P t (some l) none) (ev E x)
      | none => none
    | none, some h => match ev E h with
      | some h => un (aSlice P t none (some h)) (ev E x)
      | none => none
    | none, none => none
  | _ => none

/-! ## Soundness, an operation at a time -/
section
variable {P : Program} {w : World} {φ : Phi} {I : Nat → Prop}

/-- the operation yields u and leaves the world alone -/
def Yields1 (P : Program) (w : World) (s : Sem Value) (φ : Phi) (I : Nat → Prop) (v : AV) : Prop := ∃ u, s.run P w = .ok u w ∧ AV.den w φ I v u

theorem tk_und {t : TypeId} {d : TK} (h : tk P t = d) (hd : d ≠ .other) : ∃ u, P.underlying t = some u ∧ TK.of u = d := by
  unfold tk at h
  cases hu : P.underlying t with
  | none => rw [hu] at h; exact absurd h.symm hd
  | some u => rw [hu] at h; exact ⟨u, rfl, h⟩

theorem und_int {t : TypeId} {k : IntKind} (h : tk P t = .int k) : P.underlying t = some (.int k) := by
  obtain ⟨u, hu, hk⟩ := tk_und h (by simp)
  cases u <;> simp [TK.of] at hk
  subst hk; exact hu
theorem und_bool {t : TypeId} (h : tk P t = .bool) : P.underlying t = some .bool := by
  obtain ⟨u, hu, hk⟩ := tk_und h (by simp)
  cases u <;> simp [TK.of] at hk
  exact hu
theorem und_str {t : TypeId} (h : tk P t = .str) : P.underlying t = some .string := by
  obtain ⟨u, hu, hk⟩ := tk_und h (by simp)
  cases u <;> simp [TK.of] at hk
  exact hu
theorem und_slice {t e : TypeId} (h : tk P t = .slice e) : P.underlying t = some (.slice e) := by
  obtain ⟨u, hu, hk⟩ := tk_und h (by simp)
  cases u <;> simp [TK.of] at hk
  subst hk; exact hu
theorem und_arr {t e : TypeId} {n : Nat} (h : tk P t = .arr n e) : P.underlying t = some (.array n e) := by
  obtain ⟨u, hu, hk⟩ := tk_und h (by simp)
  cases u <;> simp [TK.of] at hk
  obtain ⟨rfl, rfl⟩ := hk; exact hu
theorem und_struct {t : TypeId} {fs : List (Nat × TypeId)} (h : tk P t = .struct fs) : ∃ F : Array Field, P.underlying t = some (.struct F) ∧ F.toList.map (fun f => (f.offset, f.type)) = fs := by
  obtain ⟨u, hu, hk⟩ := tk_und h (by simp)
  cases u <;> simp [TK.of] at hk
  exact ⟨_, hu, hk⟩
theorem sz_both {t : TypeId} {n : Nat} (h : sz P t = some n) : (∃ u, P.underlying t = some u) ∧ ∃ i, P.info? t = some i ∧ i.size = n := by
  unfold sz at h
  cases hu : P.underlying t with
  | none => rw [hu] at h; cases h
  | some u =>
    rw [hu] at h
    simp only [Option.bind_some] at h
    cases hi : P.info? t with
    | none => rw [hi] at h; cases h
    | some i => rw [hi] at h; exact ⟨⟨u, rfl⟩, i, rfl, by simpa using h⟩
theorem sz_info {t : TypeId} {n : Nat} (h : sz P t = some n) : ∃ i, P.info? t = some i ∧ i.size = n := (sz_both h).2
theorem run_sizeOf {t : TypeId} {n : Nat} (h : sz P t = some n) (w : World) : (sizeOf t).run P w = .ok n w := by
  obtain ⟨i, hi, rfl⟩ := sz_info h
  simp [sizeOf, typeInfo, hi]

theorem den_b {x : Bool} {u : Value} : AV.den w φ I (.im (.v (.bool x))) u ↔ u = .bool x := by simp [AV.den, IV.den, Value.oneCell']
theorem den_i {k : IntKind} {n : Int} {u : Value} : AV.den w φ I (.im (.v (.int k n))) u ↔ u = .int k n := by simp [AV.den, IV.den, Value.oneCell']
theorem den_s {s : ByteArray} {u : Value} : AV.den w φ I (.im (.v (.string s))) u ↔ u = .string s := by simp [AV.den, IV.den, Value.oneCell']

theorem aInt_sound {op : BinOp} {k k' : IntKind} {t : TypeId} {a b : Int} {sc : Prop} {v : AV} (h : aInt op k a b = some (sc, v)) (hsc : sc) (hk : isShift op = true ∨ k = k') :
    Yields1 P w (binOp op t (.int k a) (.int k' b)) φ I v := by
  cases op <;> simp only [aInt, Option.some.injEq, Prod.mk.injEq, reduceCtorEq] at h <;> obtain ⟨rfl, rfl⟩ := h
  all_goals first
    | (have hk2 : k = k' := hk.resolve_left (by simp [isShift])
       subst hk2
       refine ⟨_, ?_, (by simp only [AV.den, IV.den]; exact ⟨rfl, rfl⟩)⟩
       simp [binOp, Op.intArith, Op.intDiv, Op.intBits, Op.intCmp, hsc]
       done)
    | (refine ⟨_, ?_, (by simp only [AV.den, IV.den]; exact ⟨rfl, rfl⟩)⟩
       have hn : ¬ b < 0 := by omega
       simp [binOp, Op.shift, hn])
end
end Go.AL
