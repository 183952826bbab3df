/- The abstract machine of this proof: values, heap, operations, evaluator. Nothing is claimed here. -/
import Derived.Calls
namespace Go.Pend

/-! binary tries over numbers -/
inductive PT (α : Type) where
  | leaf
  | node (l : PT α) (v : Option α) (r : PT α)

namespace PT
variable {α : Type}

def get : PT α → Nat → Option α
  | .leaf, _ => none
  | .node l v r, k =>
    match k with
    | 0 => v
    | j + 1 => bif Nat.beq (j % 2) 0 then l.get (j / 2) else r.get (j / 2)

def putF : Nat → PT α → Nat → Option α → PT α
  | 0, t, _, _ => t
  | f + 1, .leaf, k, x =>
    match k with
    | 0 => .node .leaf x .leaf
    | j + 1 => bif Nat.beq (j % 2) 0 then .node (putF f .leaf (j / 2) x) none .leaf else .node .leaf none (putF f .leaf (j / 2) x)
  | f + 1, .node l v r, k, x =>
    match k with
    | 0 => .node l x r
    | j + 1 => bif Nat.beq (j % 2) 0 then .node (putF f l (j / 2) x) v r else .node l v (putF f r (j / 2) x)

def set (t : PT α) (k : Nat) (x : α) : PT α := putF (k + 1) t k (some x)
def del (t : PT α) (k : Nat) : PT α := putF (k + 1) t k none

def ofFrom : Nat → List α → PT α → PT α
  | _, [], t => t
  | i, x :: xs, t => ofFrom (i + 1) xs (t.set i x)
end PT

/-- whole numbers that hang on what is not known: a constant, and a sum over unknowns -/
structure Lin where
  c : Int
  ts : List (Nat × Int)

def insT (v : Nat) (c : Int) : List (Nat × Int) → List (Nat × Int)
  | [] => bif c == 0 then [] else [(v, c)]
  | (u, d) :: r => bif Nat.beq v u then (bif c + d == 0 then r else (u, c + d) :: r)
    else bif Nat.blt v u then (bif c == 0 then (u, d) :: r else (v, c) :: (u, d) :: r) else (u, d) :: insT v c r

def addT : List (Nat × Int) → List (Nat × Int) → List (Nat × Int)
  | [], m => m
  | (v, c) :: l, m => insT v c (addT l m)

def Lin.add (a b : Lin) : Lin := ⟨a.c + b.c, addT a.ts b.ts⟩
def scaleT (n : Int) : List (Nat × Int) → List (Nat × Int)
  | [] => []
  | (v, c) :: l => (v, n * c) :: scaleT n l
def Lin.scale (n : Int) (a : Lin) : Lin := bif n == 0 then ⟨0, []⟩ else ⟨n * a.c, scaleT n a.ts⟩
def Lin.sub (a b : Lin) : Lin := a.add (b.scale (-1))

def sameT : List (Nat × Int) → List (Nat × Int) → Bool
  | [], [] => true
  | (v, c) :: l, (u, d) :: m => Nat.beq v u && c == d && sameT l m
  | _, _ => false
def Lin.same (a b : Lin) : Bool := a.c == b.c && sameT a.ts b.ts

def evalT (ρ : Nat → Int) : List (Nat × Int) → Int
  | [] => 0
  | (v, c) :: l => c * ρ v + evalT ρ l
def Lin.eval (ρ : Nat → Int) (a : Lin) : Int := a.c + evalT ρ a.ts

/-- abstract values: 'ptr', 'slc', 'map' name objects of the abstract heap; 'rop', 'ro' bear what never changes. -/
inductive AVal where
  | bool (b : Bool)
  | int (k : IntKind) (n : Int)
  | str (s : ByteArray)
  | pnil
  | ptr (id off : Nat)
  | rop (cs : List AVal)
  | glob (g : Nat)
  | opq (n : Nat)
  | nos (isnil : Bool)
  | slc (id off len sz : Nat)
  | ro (isnil : Bool) (es : List (List AVal))
  | mnil
  | map (id : Nat)
  | fnil
  | fn (f : Nat) (caps : List AVal)
  | inil
  | ifc (t : Nat) (v : AVal)
  | agg (cs : List AVal)
  | tup (vs : List AVal)
  | yld (id : Nat)
  | sym (l : Lin)
  | arr (a : Nat)
  deriving Inhabited

/-- a range over a function under way: where its rounds begin, what they do, how it stands -/
structure ALoop where
  T : PT AVal
  nt : Nat
  ps : List Nat
  asg : Code
  body : Code
  st : LoopState
  pend : Option Code

inductive AObj where
  | cells (cs : List AVal)
  | map (es : List (AVal × AVal))
  | loop (l : ALoop)

/-- what the unknowns are -/
structure SEnv where
  v : Nat → Int
  rows : Nat → List (List AVal)

/-- what is known of the unknowns -/
inductive Fact where
  | lss (a b : Lin) (r : Bool)
  | eql (a b : Lin) (r : Bool)
  | len (a : Nat) (l : Lin)
  | row (a : Nat) (l : Lin) (cs : List AVal)
  | div (quo : Bool) (a b r : Lin)
  | mul (a b r : Lin)

structure AH where
  o : PT AObj
  n : Nat

structure St where
  T : PT AVal
  H : AH
  nt : Nat

/-- kinds that are compared by sight -/
inductive KK where
  | int (k : IntKind) | bool | str

inductive TK where
  | int (k : IntKind)
  | bool
  | str
  | ptr (esz : Nat)
  | slice (esz eby : Nat) (ez : List AVal) (ei : Option IntKind)
  | map (kk : Option KK) (vz : AVal)
  | struct (fs : List (Nat × Nat × Bool)) (cmp : Option (List KK))
  | iface (meths : Bool)
  | func
  | other

structure TyI where
  k : TK
  size : Nat
  agg : Bool
  zv : AVal

/-- a value of one cell out of a constant -/
def ofS : Value → Option AVal
  | .bool b => some (.bool b)
  | .int k n => some (.int k n)
  | .string s => some (.str s)
  | .pointer none => some .pnil
  | .slice none 0 0 => some (.nos true)
  | .map none => some .mnil
  | .nilFunc => some .fnil
  | .nilIface => some .inil
  | _ => none

def ofSs : List Value → Option (List AVal)
  | [] => some []
  | v :: vs => match ofS v, ofSs vs with
    | some a, some r => some (a :: r)
    | _, _ => none

def ofV : Value → Option AVal
  | .agg cs => match ofSs cs.toList with | some l => some (.agg l) | none => none
  | .tuple cs => match ofSs cs.toList with | some l => some (.tup l) | none => none
  | v => ofS v

def cellsOf : AVal → List AVal
  | .agg cs => cs
  | v => [v]

/-- a value of one cell? -/
def scal : AVal → Bool
  | .agg _ => false
  | .tup _ => false
  | _ => true

def kkOf (p : Program) (t : Nat) : Option KK :=
  match p.underlying t with
  | some (.int k) => some (.int k)
  | some .bool => some .bool
  | some .string => some .str
  | _ => none

def isAggD : TypeDesc → Bool
  | .struct _ => true
  | .array .. => true
  | _ => false

def aggT (p : Program) (t : Nat) : Bool :=
  match p.underlying t with
  | some d => isAggD d
  | none => false

def fieldsOf (p : Program) : List Field → Option (List (Nat × Nat × Bool))
  | [] => some []
  | f :: fs => match p.info? f.type, p.underlying f.type, fieldsOf p fs with
    | some i, some d, some r => some ((f.offset, i.size, isAggD d) :: r)
    | _, _, _ => none

def cmpOf (p : Program) : Nat → List Field → Option (List KK)
  | _, [] => some []
  | k, f :: fs => if f.offset = k ∧ f.name ≠ "_" then match kkOf p f.type, cmpOf p (k + 1) fs with
    | some a, some r => some (a :: r)
    | _, _ => none else none

def tkOf (p : Program) (t : Nat) : TypeDesc → TK
  | .int k => .int k
  | .bool => .bool
  | .string => .str
  | .pointer e => match p.info? e, p.info? t with
    | some ei, some ti => if ti.comparable = true then .ptr ei.size else .other
    | _, _ => .other
  | .slice e => match p.info? e with
    | some ei => match ei.zero with
      | some z => match ofSs z.cells.toList with
        | some ez => .slice ei.size ei.bytes ez (match p.underlying e with | some (.int k) => some k | _ => none)
        | none => .other
      | none => .other
    | none => .other
  | .map k e => match p.info? e with
    | some ei => match ei.zero with
      | some z => match ofV z with
        | some vz => .map (kkOf p k) vz
        | none => .other
      | none => .other
    | none => .other
  | .struct fs => match fieldsOf p fs.toList with
    | some l => .struct l (if p.stoodInHeld t then none else cmpOf p 0 fs.toList)
    | none => .other
  | .interface ms => .iface (!ms.isEmpty)
  | .func .. => .func
  | _ => .other

def mkTy (p : Program) (t : Nat) : Option TyI :=
  match p.info? t, p.underlying t with
  | some i, some d => match i.zero with
    | some z => match ofV z with
      | some zv => some ⟨tkOf p t d, i.size, isAggD d, zv⟩
      | none => none
    | none => none
  | _, _ => none

structure Env where
  ty : Nat → Option TyI
  fn : Nat → Option Func
  gl : Nat → Option AVal
  ov : Nat → Option (List AVal → AH → Option (AVal × AH))
  facts : List Fact := []
  env : SEnv := ⟨fun _ => 0, fun _ => []⟩

def St.ev (s : St) : Operand → Option AVal
  | .tmp t => s.T.get t
  | .const v => ofV v
  | .global g => some (.glob g)
  | .func f => some (.fn f [])

def St.evs (s : St) : List Operand → Option (List AVal)
  | [] => some []
  | x :: xs => match s.ev x, s.evs xs with
    | some a, some r => some (a :: r)
    | _, _ => none

def St.evParts (s : St) : List (Nat × Operand) → Option (List (Nat × AVal))
  | [] => some []
  | (i, x) :: xs => match s.ev x, s.evParts xs with
    | some a, some r => some ((i, a) :: r)
    | _, _ => none

def takeN : Nat → List AVal → Option (List AVal)
  | 0, _ => some []
  | _ + 1, [] => none
  | n + 1, x :: xs => match takeN n xs with | some r => some (x :: r) | none => none

/-- the cells of an object from a place on -/
def ldCells (H : AH) (a : AVal) (n : Nat) : Option (List AVal) :=
  match a with
  | .ptr id off => match H.o.get id with
    | some (.cells cs) => takeN n (cs.drop off)
    | _ => none
  | .rop cs => takeN n cs
  | _ => none

/-- 'vs' laid over 'cs' from a place on -/
def putCells : List AVal → Nat → List AVal → Option (List AVal)
  | cs, 0, [] => some cs
  | [], 0, _ :: _ => none
  | _ :: cs, 0, v :: vs => match putCells cs 0 vs with | some r => some (v :: r) | none => none
  | [], _ + 1, _ => none
  | c :: cs, k + 1, vs => match putCells cs k vs with | some r => some (c :: r) | none => none

def fillA (place : Nat → Option (Nat × Nat)) : List AVal → List (Nat × AVal) → Option (List AVal)
  | cs, [] => some cs
  | cs, (i, v) :: rest => match place i with
    | some (off, size) =>
      if (cellsOf v).length = size then (match putCells cs off (cellsOf v) with | some cs => fillA place cs rest | none => none) else none
    | none => none

def repl (z : List AVal) : Nat → List AVal
  | 0 => []
  | n + 1 => z ++ repl z n

def AH.new (H : AH) (o : AObj) : AH := ⟨H.o.set H.n o, H.n + 1⟩

def sameKey : AVal → AVal → Option Bool
  | .int k a, .int k' b => if k = k' then some (a == b) else none
  | .str a, .str b => some (a.data.toList == b.data.toList)
  | .bool a, .bool b => some (a == b)
  | _, _ => none

def findKey (k : AVal) : List (AVal × AVal) → Option (Option AVal)
  | [] => some none
  | (k', v) :: es => match sameKey k k' with
    | some true => some (some v)
    | some false => findKey k es
    | none => none

def setKey (k v : AVal) : List (AVal × AVal) → Option (List (AVal × AVal))
  | [] => some [(k, v)]
  | (k', v') :: es => match sameKey k k' with
    | some true => some ((k, v) :: es)
    | some false => match setKey k v es with | some r => some ((k', v') :: r) | none => none
    | none => none

def keyFits : KK → AVal → Bool
  | .int k, .int k' _ => decide (k = k')
  | .bool, .bool _ => true
  | .str, .str _ => true
  | _, _ => false

def binInt (op : BinOp) (k : IntKind) (a b : Int) : Option AVal :=
  match op with
  | .add => some (.int k (k.wrap (a + b)))
  | .sub => some (.int k (k.wrap (a - b)))
  | .mul => some (.int k (k.wrap (a * b)))
  | .quo => if b = 0 then none else some (.int k (k.wrap (a.tdiv b)))
  | .rem => if b = 0 then none else some (.int k (a.tmod b))
  | .and => some (.int k (k.wrap (BitVec.ofInt k.bits a &&& BitVec.ofInt k.bits b).toNat))
  | .or => some (.int k (k.wrap (BitVec.ofInt k.bits a ||| BitVec.ofInt k.bits b).toNat))
  | .xor => some (.int k (k.wrap (BitVec.ofInt k.bits a ^^^ BitVec.ofInt k.bits b).toNat))
  | .andNot => some (.int k (k.wrap (BitVec.ofInt k.bits a &&& ~~~(BitVec.ofInt k.bits b)).toNat))
  | .eql => some (.bool (a == b))
  | .neq => some (.bool (a != b))
  | .lss => some (.bool (decide (a < b)))
  | .leq => some (.bool (decide (a ≤ b)))
  | .gtr => some (.bool (decide (a > b)))
  | .geq => some (.bool (decide (a ≥ b)))
  | _ => none

def shiftA (op : BinOp) (k : IntKind) (a b : Int) : Option AVal :=
  if b < 0 then none else match op with
  | .shl => some (.int k (k.wrap (a * 2 ^ (min b.toNat k.bits))))
  | .shr => some (.int k (a.fdiv (2 ^ (min b.toNat k.bits))))
  | _ => none

def isShift : BinOp → Bool
  | .shl => true
  | .shr => true
  | _ => false

def maxLenA : Nat := 2 ^ 40

def binStr (op : BinOp) (a b : ByteArray) : Option AVal :=
  match op with
  | .add => if a.data.toList.length + b.data.toList.length ≤ maxLenA then some (.str (a ++ b)) else none
  | .eql => some (.bool (a.data.toList == b.data.toList))
  | .neq => some (.bool (!(a.data.toList == b.data.toList)))
  | .lss => some (.bool (Op.bytesLess a.data.toList b.data.toList))
  | .leq => some (.bool (Op.bytesLess a.data.toList b.data.toList || a.data.toList == b.data.toList))
  | .gtr => some (.bool (!(Op.bytesLess a.data.toList b.data.toList || a.data.toList == b.data.toList)))
  | .geq => some (.bool (!Op.bytesLess a.data.toList b.data.toList))
  | _ => none

def eqCells : List KK → List AVal → List AVal → Option Bool
  | [], [], [] => some true
  | k :: ks, x :: xs, y :: ys => if keyFits k x && keyFits k y then (match sameKey x y with
      | some true => eqCells ks xs ys
      | some false => some false
      | none => none) else none
  | _, _, _ => none

/-- '==' of what is neither a number nor a text; 'lit': one operand is written out -/
def eqA (E : Env) (t : Nat) (lit : Bool) (x y : AVal) : Option Bool :=
  match E.ty t with
  | none => none
  | some i => match i.k with
    | .bool => match x, y with
      | .bool a, .bool b => some (a == b)
      | _, _ => none
    | .ptr _ => match x, y with
      | .pnil, .pnil => some true
      | .ptr .., .pnil | .rop _, .pnil | .opq _, .pnil | .glob _, .pnil => some false
      | .pnil, .ptr .. | .pnil, .rop _ | .pnil, .opq _ | .pnil, .glob _ => some false
      | _, _ => none
    | .slice .. => match x, y with
      | .nos b, .nos true => some b
      | .ro b _, .nos true => some b
      | .slc .., .nos true => some false
      | _, _ => none
    | .map .. => match x, y with
      | .mnil, .mnil => some true
      | .map _, .mnil => some false
      | _, _ => none
    | .func => match x, y with
      | .fnil, .fnil => some true
      | .fn .., .fnil => some false
      | _, _ => none
    | .iface m => match x, y with
      | .inil, .inil => if lit || !m then some true else none
      | .inil, .ifc .. => some false
      | .ifc .., .inil => some false
      | .ifc a u, .ifc b v => if a = b then (match E.ty a, u, v with
          | some j, .opq c, .opq d => (match j.k with
            | .ptr (_ + 1) => bif (E.gl c).isSome && (E.gl d).isSome then some (Nat.beq c d) else none
            | _ => none)
          | _, _, _ => none) else some false
      | _, _ => none
    | _ => none

def isConstO : Operand → Bool
  | .const _ => true
  | _ => false

def mkSym (l : Lin) : AVal := match l.ts with
  | [] => .int .i64 (IntKind.i64.wrap l.c)
  | _ :: _ => .sym l

def ltF : List Fact → Lin → Lin → Option Bool
  | [], _, _ => none
  | .lss a b r :: F, x, y => bif Lin.same a x && Lin.same b y then some r else ltF F x y
  | _ :: F, x, y => ltF F x y

def eqF : List Fact → Lin → Lin → Option Bool
  | [], _, _ => none
  | .eql a b r :: F, x, y => bif Lin.same a x && Lin.same b y then some r else eqF F x y
  | _ :: F, x, y => eqF F x y

def lenF : List Fact → Nat → Option Lin
  | [], _ => none
  | .len a l :: F, x => bif Nat.beq a x then some l else lenF F x
  | _ :: F, x => lenF F x

def rowF : List Fact → Nat → Lin → Option (List AVal)
  | [], _, _ => none
  | .row a l cs :: F, x, y => bif Nat.beq a x && Lin.same l y then some cs else rowF F x y
  | _ :: F, x, y => rowF F x y

def divF (q : Bool) : List Fact → Lin → Lin → Option Lin
  | [], _, _ => none
  | .div p a b r :: F, x, y => bif (p == q) && Lin.same a x && Lin.same b y then some r else divF q F x y
  | _ :: F, x, y => divF q F x y

def mulF : List Fact → Lin → Lin → Option Lin
  | [], _, _ => none
  | .mul a b r :: F, x, y => bif Lin.same a x && Lin.same b y then some r else mulF F x y
  | _ :: F, x, y => mulF F x y

def eqS (F : List Fact) (a b : Lin) : Option Bool :=
  match (a.sub b).ts with
  | [] => some (IntKind.i64.wrap (a.sub b).c == 0)
  | _ :: _ => eqF F a b

def boolO : Option Bool → Option AVal
  | some b => some (.bool b)
  | none => none
def notO : Option Bool → Option AVal
  | some b => some (.bool !b)
  | none => none

def symBin (F : List Fact) (op : BinOp) (a b : Lin) : Option AVal :=
  match op with
  | .add => some (mkSym (a.add b))
  | .sub => some (mkSym (a.sub b))
  | .mul => match b.ts, a.ts with
    | [], _ => some (mkSym (a.scale b.c))
    | _, [] => some (mkSym (b.scale a.c))
    | _, _ => match mulF F a b with | some r => some (mkSym r) | none => none
  | .quo => match divF true F a b with | some r => some (mkSym r) | none => none
  | .rem => match divF false F a b with | some r => some (mkSym r) | none => none
  | .eql => boolO (eqS F a b)
  | .neq => notO (eqS F a b)
  | .lss => boolO (ltF F a b)
  | .gtr => boolO (ltF F b a)
  | .leq => notO (ltF F b a)
  | .geq => notO (ltF F a b)
  | _ => none

def isI64 : IntKind → Bool
  | .i64 => true
  | _ => false

def binA (E : Env) (op : BinOp) (t : Nat) (lit : Bool) (x y : AVal) : Option AVal :=
  match x, y with
  | .int k a, .int k' b => bif isShift op then shiftA op k a b else if k = k' then binInt op k a b else none
  | .str a, .str b => binStr op a b
  | .sym a, .sym b => symBin E.facts op a b
  | .sym a, .int k b => bif isI64 k && IntKind.i64.wrap b == b then symBin E.facts op a ⟨b, []⟩ else none
  | .int k a, .sym b => bif isI64 k && IntKind.i64.wrap a == a then symBin E.facts op ⟨a, []⟩ b else none
  | x, y => match op with
    | .eql => match eqA E t lit x y with | some b => some (.bool b) | none => none
    | .neq => match eqA E t lit x y with | some b => some (.bool !b) | none => none
    | _ => none

def lenA (k : TK) (H : AH) (x : AVal) : Option Nat :=
  match k with
  | .str => match x with | .str s => some s.data.toList.length | _ => none
  | .slice .. => match x with
    | .nos _ => some 0
    | .slc _ _ n _ => some n
    | .ro _ es => some es.length
    | _ => none
  | .map .. => match x with
    | .mnil => some 0
    | .map id => match H.o.get id with | some (.map es) => some es.length | _ => none
    | _ => none
  | _ => none

/-- is each row so long? -/
def rowsOf (sz : Nat) : List (List AVal) → Bool
  | [] => true
  | r :: rs => Nat.beq r.length sz && rowsOf sz rs

/-- all cells of a slice of elements of so many cells, and how many elements -/
def slCells (H : AH) (sz : Nat) : AVal → Option (List AVal × Nat)
  | .nos _ => some ([], 0)
  | .slc id off n _ => match H.o.get id with
    | some (.cells cs) => match takeN (n * sz) (cs.drop off) with | some l => some (l, n) | none => none
    | _ => none
  | .ro _ es => if rowsOf sz es then some (es.flatten, es.length) else none
  | .str s => if sz = 1 then some (s.data.toList.map (fun b => .int .u8 b.toNat), s.data.toList.length) else none
  | _ => none

/-- may so many elements of so many bytes be made? -/
def roomA (n by_ : Nat) : Bool := Nat.ble ((n + 1000) * (by_ + 1)) (2 ^ 40)

def appendA (E : Env) (t u : Nat) (s x : AVal) (H : AH) : Option (AVal × AH) :=
  match E.ty t, E.ty u with
  | some ti, some ui => match ti.k with
    | .slice esz eby ez _ =>
      match (match ui.k with | .slice .. => true | .str => true | _ => false) with
      | false => none
      | true => match slCells H esz x with
        | some (new, n) => match s with
          | .nos b => if n = 0 then some (.nos b, H) else
            bif roomA n eby && decide (ez.length = esz) then some (.slc H.n 0 n esz, H.new (.cells new)) else none
          | .ro true [] => if n = 0 then some (.nos true, H) else
            bif roomA n eby && decide (ez.length = esz) then some (.slc H.n 0 n esz, H.new (.cells new)) else none
          | .slc id off len sz => if sz = esz then (match H.o.get id with
            | some (.cells cs) => match takeN (len * esz) (cs.drop off) with
              | some old => bif roomA (len + n) eby && decide (ez.length = esz) && new.all scal then some (.slc H.n 0 (len + n) esz, ⟨(H.o.del id).set H.n (.cells (old ++ new)), H.n + 1⟩) else none
              | none => none
            | _ => none) else none
          | _ => none
        | none => none
    | _ => none
  | _, _ => none

/-- a bound of a slice expression -/
def boundA (d : Nat) : Option AVal → Option Nat
  | none => some d
  | some (.int _ i) => match i with | .ofNat n => some n | _ => none
  | _ => none

def sliceA (E : Env) (t : Nat) (x : AVal) (lo hi mx : Option AVal) : Option AVal :=
  match E.ty t with
  | none => none
  | some ti => match ti.k with
    | .str => match x, mx with
      | .str s, none => match boundA 0 lo, boundA s.data.toList.length hi with
        | some l, some h => if l ≤ h ∧ h ≤ s.data.toList.length then some (.str ⟨((s.data.toList.drop l).take (h - l)).toArray⟩) else none
        | _, _ => none
      | _, _ => none
    | .slice esz _ _ _ => match x with
      | .nos b => match boundA 0 lo, boundA 0 hi, boundA 0 mx with
        | some 0, some 0, some 0 => bif mx.isNone || hi.isSome then some (.nos b) else none
        | _, _, _ => none
      | .slc id off len sz => match boundA 0 lo, boundA len hi with
        | some l, some h => match mx with
          | none => if l ≤ h ∧ h ≤ len ∧ sz = esz then some (.slc id (off + l * esz) (h - l) sz) else none
          | some m => match boundA 0 (some m) with
            | some m => if l = h ∧ h = m ∧ m ≤ len ∧ hi.isSome = true then some (.nos false) else none
            | none => none
        | _, _ => none
      | .ro b es => match boundA 0 lo, boundA es.length hi with
        | some l, some h => match mx with
          | none => if l ≤ h ∧ h ≤ es.length ∧ rowsOf esz es then some (.ro b ((es.drop l).take (h - l))) else none
          | some m => match boundA 0 (some m) with
            | some m => if l = h ∧ h = m ∧ m ≤ es.length ∧ hi.isSome = true then some (.nos b) else none
            | none => none
        | _, _ => none
      | _ => none
    | _ => none

def fieldAddrA (E : Env) (t f : Nat) (a : AVal) : Option AVal :=
  match E.ty t with
  | none => none
  | some ti => match ti.k with
    | .struct fs _ => match fs[f]? with
      | some (off, s, _) => bif Nat.beq s 0 then none else match a with
        | .ptr id o => some (.ptr id (o + off))
        | .rop cs => some (.rop (cs.drop off))
        | _ => none
      | none => none
    | _ => none

def arrIndexA (E : Env) (t a : Nat) (i : AVal) : Option AVal :=
  match E.ty t with
  | some ti => match ti.k with
    | .slice esz _ _ _ => match (match i with | .sym l => rowF E.facts a l | .int k n => bif isI64 k && IntKind.i64.wrap n == n then rowF E.facts a ⟨n, []⟩ else none | _ => none) with
      | some cs => bif Nat.beq cs.length esz then some (.rop cs) else none
      | none => none
    | _ => none
  | none => none

def indexAddrB (E : Env) (t : Nat) (x i : AVal) : Option AVal :=
  match E.ty t, i with
  | some ti, .int _ (.ofNat k) => match ti.k with
    | .slice esz _ _ _ => match x with
      | .slc id off len _ => if k < len then some (.ptr id (off + k * esz)) else none
      | .ro _ es => match es[k]? with | some cs => if rowsOf esz es then some (.rop cs) else none | none => none
      | _ => none
    | _ => none
  | _, _ => none

def indexAddrA (E : Env) (t : Nat) (x i : AVal) : Option AVal :=
  match x with
  | .arr a => arrIndexA E t a i
  | x => indexAddrB E t x i

def loadA (E : Env) (t : Nat) (a : AVal) (H : AH) : Option AVal :=
  match a with
  | .glob g => match E.ty t with
    | some i => bif i.agg then none else E.gl g
    | none => none
  | a => match E.ty t with
    | some i => bif i.agg then (match ldCells H a i.size with | some cs => some (.agg cs) | none => none)
      else match ldCells H a 1 with | some [v] => some v | _ => none
    | none => none

def storeA (E : Env) (t : Nat) (a v : AVal) (H : AH) : Option AH :=
  match E.ty t with
  | some i => if (cellsOf v).length = i.size ∧ (cellsOf v).all scal = true then match a with
    | .ptr id off => match H.o.get id with
      | some (.cells cs) => match putCells cs off (cellsOf v) with
        | some cs' => some ⟨H.o.set id (.cells cs'), H.n⟩
        | none => none
      | _ => none
    | _ => none else none
  | none => none

def placeOf (fs : List (Nat × Nat × Bool)) (i : Nat) : Option (Nat × Nat) :=
  match fs[i]? with
  | some (o, s, _) => some (o, s)
  | none => none

def buildA (E : Env) (t : Nat) (ps : List (Nat × AVal)) : Option AVal :=
  match E.ty t with
  | none => none
  | some ti => match ti.k with
    | .struct fs _ => match fillA (placeOf fs) (cellsOf ti.zv) ps with
      | some cs => some (.agg cs)
      | none => none
    | _ => none

def buildSliceA (E : Env) (t len : Nat) (ps : List (Nat × AVal)) (H : AH) : Option (AVal × AH) :=
  match E.ty t with
  | none => none
  | some ti => match ti.k with
    | .slice esz _ ez _ => if ez.length = esz ∧ len * esz ≤ 2 ^ 24 then
        (match fillA (fun i => some (i * esz, esz)) (repl ez len) ps with
        | some cs => some (.slc H.n 0 len esz, H.new (.cells cs))
        | none => none) else none
    | _ => none

def bytesOfCells : List AVal → Option (List UInt8)
  | [] => some []
  | .int .u8 n :: r => match bytesOfCells r with | some l => some (UInt8.ofNat n.toNat :: l) | none => none
  | _ => none

def convA (E : Env) (src dst : Nat) (x : AVal) (H : AH) : Option (AVal × AH) :=
  match E.ty src, E.ty dst with
  | some si, some di => match di.k, x with
    | .int k, .int _ n => some (.int k (k.wrap n), H)
    | .int k, .sym l => bif isI64 k then some (.sym l, H) else none
    | .str, .str s => some (.str s, H)
    | .slice _ _ _ (some .u8), .str s => some (.slc H.n 0 s.data.toList.length 1, H.new (.cells (s.data.toList.map fun b => .int .u8 b.toNat)))
    | .str, x => match si.k with
      | .slice _ _ _ (some .u8) => match x with
        | .str _ => none
        | x => match slCells H 1 x with
          | some (cs, _) => match bytesOfCells cs with | some l => some (.str ⟨l.toArray⟩, H) | none => none
          | none => none
      | _ => none
    | _, _ => none
  | _, _ => none

def unA (op : UnOp) : AVal → Option AVal
  | .int k n => match op with
    | .neg => some (.int k (k.wrap (0 - n)))
    | _ => none
  | .bool b => match op with
    | .not => some (.bool !b)
    | _ => none
  | .sym l => match op with
    | .neg => some (mkSym (l.scale (-1)))
    | _ => none
  | _ => none

def max2A (isMax : Bool) : AVal → AVal → Option AVal
  | .int k x, .int _ y => some (.int k (bif isMax then (if y > x then y else x) else (if y < x then y else x)))
  | _, _ => none

def copyA (E : Env) (t : Nat) (d s : AVal) (H : AH) : Option (AVal × AH) :=
  match E.ty t with
  | none => none
  | some ti => match ti.k with
    | .slice esz _ _ _ => match slCells H esz s with
      | some (cs, n) => bif cs.all scal then (match d with
        | .nos _ => some (.int .i64 0, H)
        | .slc id off len _ => match H.o.get id with
          | some (.cells old) => match putCells old off (cs.take (min n len * esz)) with
            | some new => some (.int .i64 (min n len : Nat), ⟨H.o.set id (.cells new), H.n⟩)
            | none => none
          | _ => none
        | _ => none) else none
      | none => none
    | _ => none

def clearA (E : Env) (t : Nat) (d : AVal) (H : AH) : Option (AVal × AH) :=
  match E.ty t with
  | none => none
  | some ti => match ti.k with
    | .slice esz _ ez _ => match d with
      | .nos _ => some (.tup [], H)
      | .slc id off len _ => if ez.length = esz ∧ ez.all scal = true ∧ 0 < esz then (match H.o.get id with
        | some (.cells old) => match putCells old off (repl ez len) with
          | some new => some (.tup [], ⟨H.o.set id (.cells new), H.n⟩)
          | none => none
        | _ => none) else none
      | _ => none
    | _ => none

def builtinA (E : Env) (b : Builtin) (ts : List Nat) (args : List AVal) (H : AH) : Option (AVal × AH) :=
  match b, ts, args with
  | .len, t :: _, [.arr a] => match E.ty t with
    | some ti => match ti.k with
      | .slice .. => match lenF E.facts a with | some l => some (mkSym l, H) | none => none
      | _ => none
    | none => none
  | .len, t :: _, [x] => match E.ty t with
    | some ti => match lenA ti.k H x with
      | some n => some (.int .i64 n, H)
      | none => none
    | none => none
  | .append, t :: u :: _, [s, x] => appendA E t u s x H
  | .max, _, [x, y] => match max2A true x y with | some v => some (v, H) | none => none
  | .max, _, [x, y, z] => match max2A true x y with | some v => (match max2A true v z with | some v => some (v, H) | none => none) | none => none
  | .min, _, [x, y] => match max2A false x y with | some v => some (v, H) | none => none
  | .copy, t :: _, [d, s] => copyA E t d s H
  | .clear, t :: _, [d] => clearA E t d H
  | _, _, _ => none

def lookupA (E : Env) (t : Nat) (m k : AVal) (ok : Bool) (H : AH) : Option AVal :=
  match E.ty t with
  | none => none
  | some ti => match ti.k with
    | .map (some kk) vz => bif keyFits kk k then
        (let es : Option (List (AVal × AVal)) := match m with
          | .mnil => some []
          | .map id => match H.o.get id with | some (.map es) => some es | _ => none
          | _ => none
        match es with
        | some es => match findKey k es with
          | some (some v) => some (bif ok then .tup [v, .bool true] else v)
          | some none => some (bif ok then .tup [vz, .bool false] else vz)
          | none => none
        | none => none) else none
    | _ => none

def updateA (E : Env) (t : Nat) (m k v : AVal) (H : AH) : Option AH :=
  match E.ty t with
  | none => none
  | some ti => match ti.k with
    | .map (some kk) _ => bif keyFits kk k then
        (match m with
        | .map id => match H.o.get id with
          | some (.map es) => match setKey k v es with
            | some es => some ⟨H.o.set id (.map es), H.n⟩
            | none => none
          | _ => none
        | _ => none) else none
    | _ => none

def assertA (E : Env) (t : Nat) (x : AVal) (ok : Bool) : Option AVal :=
  match E.ty t with
  | none => none
  | some ti => match ti.k with
    | .iface _ => none
    | .other => none
    | _ => match x with
      | .inil => bif ok then some (.tup [ti.zv, .bool false]) else none
      | .ifc u v => if u = t then some (bif ok then .tup [v, .bool true] else v)
        else bif ok then some (.tup [ti.zv, .bool false]) else none
      | _ => none

def partA (cs : List AVal) (off size : Nat) (agg : Bool) : Option AVal :=
  bif agg then (match takeN size (cs.drop off) with | some l => some (.agg l) | none => none) else cs[off]?

def fieldA (E : Env) (t f : Nat) (x : AVal) : Option AVal :=
  match E.ty t with
  | none => none
  | some ti => match ti.k, x with
    | .struct fs _, .agg cs => match fs[f]? with
      | some (off, size, agg) => partA cs off size agg
      | none => none
    | _, _ => none

def indexA (E : Env) (t : Nat) (x i : AVal) : Option AVal :=
  match E.ty t, x, i with
  | some ti, .str b, .int _ (.ofNat k) => match ti.k with
    | .str => match b.data.toList[k]? with
      | some c => some (.int .u8 c.toNat)
      | none => none
    | _ => none
  | _, _, _ => none

def makeSliceA (E : Env) (t : Nat) (l c : AVal) (H : AH) : Option (AVal × AH) :=
  match E.ty t, l, c with
  | some ti, .int .i64 (.ofNat l), .int .i64 (.ofNat c) => match ti.k with
    | .slice esz eby ez _ => if l ≤ c ∧ ez.length = esz then
        (bif roomA c eby then some (.slc H.n 0 l esz, H.new (.cells (repl ez l))) else none) else none
    | _ => none
  | _, _, _ => none

def lift (H : AH) : Option AVal → Option (AVal × AH)
  | some v => some (v, H)
  | none => none

def liftH : Option AH → Option (AVal × AH)
  | some H => some (.tup [], H)
  | none => none

/-- an operation that is no call of a function -/
def opA (E : Env) (o : Oper) (s : St) : Option (AVal × AH) :=
  let H := s.H
  match o.op with
  | .move x => lift H (s.ev x)
  | .assign x => lift H (s.ev x)
  | .pick c a b => match s.ev c with
    | some (.bool true) => lift H (s.ev a)
    | some (.bool false) => lift H (s.ev b)
    | _ => none
  | .alloc t => match E.ty t with
    | some i => some (.ptr H.n 0, H.new (.cells (cellsOf i.zv)))
    | none => none
  | .box _ x => match s.ev x with
    | some v => some (.ptr H.n 0, H.new (.cells (cellsOf v)))
    | none => none
  | .build t ps => match s.evParts ps.toList with
    | some l => lift H (buildA E t l)
    | none => none
  | .buildSlice t len ps => match s.evParts ps.toList with
    | some l => buildSliceA E t len l H
    | none => none
  | .load t a => match s.ev a with
    | some a => lift H (loadA E t a H)
    | none => none
  | .store t a v => match s.ev a, s.ev v with
    | some a, some v => liftH (storeA E t a v H)
    | _, _ => none
  | .nilCheck x => match s.ev x with
    | some (.ptr id off) => some (.ptr id off, H)
    | some (.rop cs) => some (.rop cs, H)
    | some (.ifc t v) => some (.ifc t v, H)
    | some (.fn f c) => some (.fn f c, H)
    | _ => none
  | .binOp op t x y _ => match s.ev x, s.ev y with
    | some a, some b => lift H (binA E op t (isConstO x || isConstO y) a b)
    | _, _ => none
  | .unOp op _ x => match s.ev x with
    | some a => lift H (unA op a)
    | none => none
  | .convert src dst x => match s.ev x with
    | some a => convA E src dst a H
    | none => none
  | .makeInterface t x => match s.ev x, E.ty t with
    | some a, some ti => match ti.k with
      | .iface _ => none
      | .other => none
      | _ => some (.ifc t a, H)
    | _, _ => none
  | .makeFunc (.func f) first caps => match first.toList, s.evs caps.toList with
    | [], some l => some (.fn f l, H)
    | _, _ => none
  | .makeMap _ none => some (.map H.n, H.new (.map []))
  | .makeSlice t l c => match s.ev l, s.ev c with
    | some l, some c => makeSliceA E t l c H
    | _, _ => none
  | .slice t x lo hi mx =>
    let b (o : Option Operand) : Option (Option AVal) := match o with
      | none => some none
      | some y => match s.ev y with | some a => some (some a) | none => none
    match s.ev x, b lo, b hi, b mx with
    | some x, some lo, some hi, some mx => lift H (sliceA E t x lo hi mx)
    | _, _, _, _ => none
  | .fieldAddr t x f => match s.ev x with
    | some a => lift H (fieldAddrA E t f a)
    | none => none
  | .field t x f => match s.ev x with
    | some a => lift H (fieldA E t f a)
    | none => none
  | .indexAddr t x i => match s.ev x, s.ev i with
    | some a, some i => lift H (indexAddrA E t a i)
    | _, _ => none
  | .index t x i => match s.ev x, s.ev i with
    | some a, some i => lift H (indexA E t a i)
    | _, _ => none
  | .lookup t m k ok => match s.ev m, s.ev k with
    | some m, some k => lift H (lookupA E t m k ok H)
    | _, _ => none
  | .mapUpdate t m k v => match s.ev m, s.ev k, s.ev v with
    | some m, some k, some v => liftH (updateA E t m k v H)
    | _, _, _ => none
  | .insert t m k v => match s.ev m, s.ev k, s.ev v with
    | some m, some k, some v => liftH (updateA E t m k v H)
    | _, _, _ => none
  | .typeAssert x _ t ok => match s.ev x with
    | some a => lift H (assertA E t a ok)
    | none => none
  | .extract x i => match s.ev x with
    | some (.tup vs) => lift H vs[i]?
    | _ => none
  | .call c => match c.callee with
    | .builtin b => match s.evs c.args.toList with
      | some args => builtinA E b c.argTypes.toList args H
      | none => none
    | _ => none
  | _ => none

abbrev CallF := Bool → Nat → List AVal → AH → Option (AVal × AH)

/-- an operation, a call of a function among them -/
def stepA (E : Env) (cf : CallF) (o : Oper) (s : St) : Option (AVal × AH) :=
  match o.op with
  | .call c => match c.callee with
    | .value f => match s.ev f, s.evs c.args.toList with
      | some (.fn g caps), some args => cf false g (args ++ caps) s.H
      | some (.yld id), some args => cf true id args s.H
      | _, _ => none
    | _ => opA E o s
  | _ => opA E o s

def wantedA (ops : List Oper) (o : Oper) (s : St) : Option Bool :=
  match o.guard with
  | none => some true
  | some (j, want) => match ops[j]? with
    | some p => match p.dst with
      | some d => match s.T.get d with
        | some (.bool b) => some (b == want)
        | some _ => some false
        | none => none
      | none => some false
    | none => some false

def St.put (s : St) (d : Option Nat) (v : AVal) (H : AH) : Option St :=
  match d with
  | some d => bif Nat.blt d s.nt then some ⟨s.T.set d v, H, s.nt⟩ else none
  | none => some ⟨s.T, H, s.nt⟩

/-- one operation of a region, or none if its guard says so -/
def oneA (E : Env) (cf : CallF) (ops : List Oper) (o : Oper) (s : St) : Option St :=
  match wantedA ops o s with
  | some true => match stepA E cf o s with
    | some (v, H) => s.put o.dst v H
    | none => none
  | some false => s.put o.dst (.tup []) s.H
  | none => none

def opsA (E : Env) (cf : CallF) (ops : List Oper) : List Oper → St → Option St
  | [], s => some s
  | o :: rest, s => match oneA E cf ops o s with
    | some s => opsA E cf ops rest s
    | none => none

inductive Out where
  | next (s : St)
  | exit (id : Nat) (s : St)
  | ret (s : St)

def resOne (E : Env) (s : St) : ResultVar → Option AVal
  | .tmp t => s.T.get t
  | .cell a t => match s.T.get a with
    | some p => loadA E t p s.H
    | none => none

def resAll (E : Env) (s : St) : List ResultVar → Option (List AVal)
  | [] => some []
  | r :: rs => match resOne E s r, resAll E s rs with
    | some v, some l => some (v :: l)
    | _, _ => none

def resA (E : Env) (fn : Func) (s : St) : Option AVal :=
  match resAll E s fn.results.toList with
  | some [v] => some v
  | some l => some (.tup l)
  | none => none

def setPs (nt : Nat) : List Nat → List AVal → PT AVal → Option (PT AVal)
  | p :: ps, x :: xs, T => bif Nat.blt p nt then setPs nt ps xs (T.set p x) else none
  | [], [], T => some T
  | _, _, _ => none

def loopOf (H : AH) (id : Nat) : Option ALoop :=
  match H.o.get id with
  | some (.loop l) => some l
  | _ => none

/-- a round's end: the record, what the iterator is told -/
def endA (id : Nat) (s : St) (jump : Option Code) : Option (AVal × AH) :=
  match loopOf s.H id with
  | some l => some (.bool jump.isNone, ⟨s.H.o.set id (.loop ⟨l.T, l.nt, l.ps, l.asg, l.body, (match jump with | none => .ready | some _ => .done), jump⟩), s.H.n⟩)
  | none => none

/-- a round of a range over a function -/
def yieldA (ex : Bool → Code → St → Option Out) (id : Nat) (args : List AVal) (H : AH) : Option (AVal × AH) :=
  match loopOf H id with
  | some l => match setPs l.nt l.ps args l.T with
    | some T => match ex true l.asg ⟨T, H, l.nt⟩ with
      | some (.next s) => match loopOf s.H id with
        | some k => match k.st with
          | .ready => match ex true l.body ⟨s.T, ⟨s.H.o.set id (.loop ⟨k.T, k.nt, k.ps, k.asg, k.body, .busy, k.pend⟩), s.H.n⟩, s.nt⟩ with
            | some (.next s') => endA id s' none
            | some (.ret s') => endA id s' (some .ret)
            | some (.exit i s') => endA id s' (some (.exit i))
            | none => none
          | _ => none
        | none => none
      | _ => none
    | none => none
  | none => none

def callA (E : Env) (ex : Bool → Code → St → Option Out) : CallF := fun y f args H =>
  bif y then yieldA ex f args H
  else match E.ov f with
  | some g => g args H
  | none => match E.fn f with
    | some fn => match fn.body with
      | some c => match (bif Nat.ble args.length fn.ntmps then ex false c ⟨PT.ofFrom 0 args .leaf, H, fn.ntmps⟩ else none) with
        | some (.ret s) => match resA E fn s with | some v => some (v, s.H) | none => none
        | some (.next s) => match resA E fn s with | some v => some (v, s.H) | none => none
        | _ => none
      | none => none
    | none => none

/-! ## a region whose order is drawn -/

mutual
def AVal.same : AVal → AVal → Bool
  | .bool a, .bool b => a == b
  | .int k a, .int l b => decide (k = l) && (a == b)
  | .str a, .str b => a.data.toList == b.data.toList
  | .pnil, .pnil => true
  | .ptr i o, .ptr j q => Nat.beq i j && Nat.beq o q
  | .rop a, .rop b => AVal.sames a b
  | .glob a, .glob b => Nat.beq a b
  | .opq a, .opq b => Nat.beq a b
  | .nos a, .nos b => a == b
  | .slc a b c d, .slc e f g h => Nat.beq a e && Nat.beq b f && Nat.beq c g && Nat.beq d h
  | .ro a b, .ro c d => (a == c) && AVal.samess b d
  | .mnil, .mnil => true
  | .map a, .map b => Nat.beq a b
  | .fnil, .fnil => true
  | .fn a b, .fn c d => Nat.beq a c && AVal.sames b d
  | .inil, .inil => true
  | .ifc a b, .ifc c d => Nat.beq a c && AVal.same b d
  | .agg a, .agg b => AVal.sames a b
  | .tup a, .tup b => AVal.sames a b
  | .yld a, .yld b => Nat.beq a b
  | .sym a, .sym b => Lin.same a b
  | .arr a, .arr b => Nat.beq a b
  | _, _ => false
def AVal.sames : List AVal → List AVal → Bool
  | [], [] => true
  | a :: x, b :: y => AVal.same a b && AVal.sames x y
  | _, _ => false
def AVal.samess : List (List AVal) → List (List AVal) → Bool
  | [], [] => true
  | a :: x, b :: y => AVal.sames a b && AVal.samess x y
  | _, _ => false
end

/-- may an operation make, or write? -/
def eff : Op → Bool
  | .move _ | .assign _ | .pick .. | .build .. | .load .. | .nilCheck _ | .binOp .. | .unOp .. | .makeInterface .. | .makeFunc ..
  | .slice .. | .fieldAddr .. | .field .. | .indexAddr .. | .index .. | .lookup .. | .typeAssert .. | .extract .. => false
  | .call { callee := .builtin .len, .. } => false
  | .call { callee := .builtin .max, .. } => false
  | .call { callee := .builtin .min, .. } => false
  | _ => true

/-- does what it gives hang on memory? -/
def heapy : Op → Bool
  | .load .. | .lookup .. => true
  | .call { callee := .builtin .len, .. } => true
  | _ => false

def tmpsOf : List Operand → List Nat
  | [] => []
  | .tmp t :: r => t :: tmpsOf r
  | _ :: r => tmpsOf r

/-- the slots that an operation looks at -/
def looks (ops : List Oper) (o : Oper) : List Nat :=
  (match o.guard with
  | some (j, _) => (match ops[j]? with | some p => p.dst.toList | none => [])
  | none => []) ++ tmpsOf o.op.operands.toList

/-- what has to come ahead, as bits -/
def edgeBits (acc : List Nat) : List Edge → Nat → Nat
  | [], m => m
  | e :: es, m => edgeBits acc es (bif Region.binds .any e then m ||| (2 ^ e.on) ||| acc.getD e.on 0 else m)

def befL : List Oper → List Nat → List Nat
  | [], acc => acc
  | o :: os, acc => befL os (acc ++ [edgeBits acc o.after.toList 0])

/-- are the edges backward? -/
def backL : Nat → List Oper → Bool
  | _, [] => true
  | i, o :: os => (o.after.toList.all fun e => !Region.binds .any e || decide (e.on < i)) && backL (i + 1) os

/-- the states ahead of each operation, in the order of the text, and the last one -/
def traceA (E : Env) (cf : CallF) (ops : List Oper) : List Oper → St → Option (List St × St)
  | [], s => some ([], s)
  | o :: rest, s => match oneA E cf ops o s with
    | some s' => match traceA E cf ops rest s' with
      | some (l, e) => some (s :: l, e)
      | none => none
    | none => none

def clash (ops : List Oper) (o p : Oper) : Bool :=
  (match o.dst with
  | some d => (match p.dst with | some e => Nat.beq d e | none => false) || (looks ops p).any (Nat.beq d)
  | none => false) ||
  (match p.dst with
  | some d => (looks ops o).any (Nat.beq d)
  | none => false)

/-- does it give the same in another memory? -/
def stillA (E : Env) (ops : List Oper) (o : Oper) (s : St) (H : AH) : Bool :=
  match wantedA ops o s with
  | some true => match opA E o s, opA E o ⟨s.T, H, s.nt⟩ with
    | some (v, _), some (u, _) => AVal.same v u
    | _, _ => false
  | _ => true

/-- two operations of a region, the first ahead by text (its place: i), the second's bits: may they stand in either order? -/
def freeA (E : Env) (ops : List Oper) (i : Nat) (o : Oper) (s s' : St) (bits : Nat) (p : Oper) (t t' : St) : Bool :=
  bits.testBit i ||
  (!clash ops o p &&
    (match eff o.op, eff p.op with
    | true, true => false
    | true, false => !heapy p.op || stillA E ops p t s.H && stillA E ops p t s'.H
    | false, true => !heapy o.op || stillA E ops o s t.H && stillA E ops o s t'.H
    | false, false => true))

/-- rows of the trace: the operation, its state, the state behind it, its bits -/
structure Row where
  o : Oper
  s : St
  s' : St
  b : Nat

def rowsA : List Oper → List St → List Nat → St → List Row
  | o :: os, s :: t :: ss, b :: bs, e => ⟨o, s, t, b⟩ :: rowsA os (t :: ss) bs e
  | o :: _, [s], b :: _, e => [⟨o, s, e, b⟩]
  | _, _, _, _ => []

def freeFrom (E : Env) (ops : List Oper) : Nat → List Row → Bool
  | _, [] => true
  | i, r :: rs => (rs.all fun q => freeA E ops i r.o r.s r.s' q.b q.o q.s q.s') && freeFrom E ops (i + 1) rs

def drawA (E : Env) (cf : CallF) (ops : List Oper) (s : St) : Option St :=
  match traceA E cf ops ops s with
  | some (l, e) => bif backL 0 ops && freeFrom E ops 0 (rowsA ops l (befL ops []) e) then some e else none
  | none => none

def exec (E : Env) : Nat → Bool → Code → St → Option Out
  | 0 => fun _ _ _ => none
  | k + 1 => fun rd c s => match c with
    | .skip => some (.next s)
    | .region _ ops draw => match (bif draw then drawA E (callA E (exec E k)) ops.toList s else opsA E (callA E (exec E k)) ops.toList ops.toList s) with
      | some s => some (.next s)
      | none => none
    | .seq a b => match exec E k rd a s with
      | some (.next s) => exec E k rd b s
      | r => r
    | .cond c a b => match s.ev c with
      | some (.bool true) => exec E k rd a s
      | some (.bool false) => exec E k rd b s
      | _ => none
    | .block id c => match exec E k rd c s with
      | some (.exit i s) => if i = id then some (.next s) else some (.exit i s)
      | r => r
    | .loop c => match exec E k rd c s with
      | some (.next s) => exec E k rd (.loop c) s
      | r => r
    | .exit id => some (.exit id s)
    | .ret => some (.ret s)
    | .rangeFunc g ps asg body => bif rd then none
      else match s.ev g with
      | some (.fn f caps) => match callA E (exec E k) false f (.yld s.H.n :: caps) (s.H.new (.loop ⟨s.T, s.nt, ps.toList, asg, body, .ready, none⟩)) with
        | some (_, H) => match loopOf H s.H.n with
          | some l => match l.st with
            | .busy => none
            | _ => match l.pend with
              | none => some (.next ⟨s.T, ⟨H.o.del s.H.n, H.n⟩, s.nt⟩)
              | some c => exec E k rd c ⟨s.T, ⟨H.o.del s.H.n, H.n⟩, s.nt⟩
          | none => none
        | none => none
      | _ => none
    | _ => none

def tyTab (p : Program) : PT (Option TyI) := PT.ofFrom 0 ((List.range p.types.size).map (mkTy p)) .leaf

def mkEnv (p : Program) (gl : Nat → Option AVal) (ov : Nat → Option (List AVal → AH → Option (AVal × AH))) : Env :=
  { ty := fun t => match (tyTab p).get t with | some (some i) => some i | _ => none
    fn := fun f => (PT.ofFrom 0 p.funcs.toList .leaf).get f
    gl, ov }

end Go.Pend
