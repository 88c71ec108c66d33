/-
  THE ABSTRACT INTERPRETER: the code of a loaded function run over plain data: slices as lists, variables as small boxes, no addresses, no tape. What it answers, the machine answers (XRun). It knows no program: the tables come in as a 'Cfg'.
-/
import Derived.Calls
namespace Go.Proofs.YtmbhohnoolflbaaDoorX

/-- Pure data of one cell. -/
inductive D where
  | int (k : IntKind) (n : Int)
  | bool (b : Bool)
  | str (l : List UInt8)
  | sl (sz : Nat) (es : List (List D))
  | nif | nptr | nfn

/-- Which box. -/
inductive PRef where
  | out (i : Nat)
  | loc (i : Nat)
  deriving DecidableEq

/-- What one may do with a slice: read it; append to it (its spare cells are one's own); it has no spare cells. -/
inductive Fl where
  | sh | own | ti

def Fl.ok : Fl → Bool
  | .sh => false
  | _ => true
def Fl.dem : Fl → Fl
  | .ti => .ti
  | _ => .sh

/-- One cell. -/
inductive C where
  | int (k : IntKind) (n : Int)
  | bool (b : Bool)
  | str (l : List UInt8)
  | sl (sz : Nat) (es : List (List D)) (fl : Fl)
  | nif | nptr | nfn
  | bld (T te : Nat) (l : List UInt8)
  | ptr (p : PRef) (off : Nat)
  | fn (f : FuncId) (caps : List PRef)

/-- A value: one cell, or the cells of a struct or an array. -/
inductive V where
  | c (x : C)
  | agg (cs : List C)

/-- What a temporary holds: nothing known; the model's 'undef'; a value; several results (those already taken out); a place in an element; a value in an interface. -/
inductive AV where
  | top | und
  | v (x : V)
  | tup (vs : List V) (used : List Nat)
  | el (ds : List D) (off : Nat)
  | ifc (t : TypeId) (x : V)

/-- How a call ends: it returns; it panics with a value. With what the boxes hold then. -/
inductive Res where
  | ret (vs : List V) (bs : List (List C))
  | pan (t : TypeId) (x : V) (bs : List (List C))

abbrev R := Option Res

/-- The kinds of types. -/
inductive TK where
  | int (k : IntKind) | bool | str
  | slice (e : TypeId)
  | struct (fs : List (Nat × TypeId))
  | arr (n : Nat) (e : TypeId)
  | ptr (e : TypeId) | fn | ifc | tup | oth

def TK.isAggB : TK → Bool
  | .struct _ => true
  | .arr _ _ => true
  | _ => false

structure TI where
  k : TK
  size : Nat
  bytes : Nat
  zero : List C

structure Cfg where
  T : List TI
  fns : FuncId → Option Func
  live : FuncId → List (Nat × List Nat × List Nat)
  prim : FuncId → Option (List V → List (List C) → R)
  dfr : FuncId → Option (Option (TypeId × V) → List (List C) → Option (List (List C)))

def nth {α : Type} : List α → Nat → Option α
  | [], _ => none
  | x :: _, 0 => some x
  | _ :: r, n + 1 => nth r n

def assoc {α : Type} : List (Nat × α) → Nat → Option α
  | [], _ => none
  | (m, v) :: r, n => bif Nat.beq m n then some v else assoc r n

def del {α : Type} : List (Nat × α) → Nat → List (Nat × α)
  | [], _ => []
  | (m, v) :: r, n => bif Nat.beq m n then del r n else (m, v) :: del r n

def memN : List Nat → Nat → Bool
  | [], _ => false
  | m :: r, n => bif Nat.beq m n then true else memN r n

def PRef.eqb : PRef → PRef → Bool
  | .out i, .out j => Nat.beq i j
  | .loc i, .loc j => Nat.beq i j
  | _, _ => false

def ixP : List PRef → PRef → Nat → Option Nat
  | [], _, _ => none
  | q :: r, p, i => bif q.eqb p then some i else ixP r p (i + 1)

def dedupP : List PRef → List PRef → List PRef
  | [], acc => acc.reverse
  | p :: r, acc => match ixP acc p 0 with
    | some _ => dedupP r acc
    | none => dedupP r (p :: acc)

def D.toC : D → C
  | .int k n => .int k n
  | .bool b => .bool b
  | .str l => .str l
  | .sl sz es => .sl sz es .sh
  | .nif => .nif
  | .nptr => .nptr
  | .nfn => .nfn

def C.toD : C → Option D
  | .int k n => some (.int k n)
  | .bool b => some (.bool b)
  | .str l => some (.str l)
  | .sl sz es _ => some (.sl sz es)
  | .nif => some .nif
  | .nptr => some .nptr
  | .nfn => some .nfn
  | _ => none

def C.dem : C → C
  | .sl sz es fl => .sl sz es fl.dem
  | c => c
/-- A nil slice of a struct's zero value. -/
def C.bz : C → C
  | .sl sz es .own => .sl sz es .ti
  | c => c
def C.share : C → C
  | .sl sz es _ => .sl sz es .sh
  | c => c
def V.share : V → V
  | .c x => .c x.share
  | x => x
def AV.share : AV → AV
  | .v x => .v x.share
  | x => x

structure St where
  env : List (Nat × AV)
  loc : List (Nat × List C)
  out : List (List C)
  dfr : Option (FuncId × List PRef)

def getE (e : List (Nat × AV)) (n : Nat) : AV :=
  match assoc e n with
  | some v => v
  | none => .top
def setE (e : List (Nat × AV)) (n : Nat) (v : AV) : List (Nat × AV) := (n, v) :: del e n

def upd {α : Type} : List α → Nat → α → List α
  | [], _, _ => []
  | _ :: r, 0, v => v :: r
  | x :: r, n + 1, v => x :: upd r n v

def updA {α : Type} : List (Nat × α) → Nat → α → List (Nat × α)
  | [], _, _ => []
  | (m, x) :: r, n, v => bif Nat.beq m n then (m, v) :: r else (m, x) :: updA r n v

def St.box (s : St) : PRef → Option (List C)
  | .out i => nth s.out i
  | .loc i => assoc s.loc i
def St.setBox (s : St) (p : PRef) (b : List C) : St :=
  match p with
  | .out i => { s with out := upd s.out i b }
  | .loc i => { s with loc := updA s.loc i b }
def St.put (s : St) (d : Option Nat) (v : AV) : St :=
  match d with
  | some n => { s with env := setE s.env n v }
  | none => s

/-! ### Reading values: each hands on what it finds -/
def asI (k : IntKind) (x : AV) (κ : Int → R) : R :=
  match x with
  | .v (.c (.int k' n)) => if k' = k then κ n else none
  | _ => none
def asIk (x : AV) (κ : IntKind → Int → R) : R :=
  match x with
  | .v (.c (.int k n)) => κ k n
  | _ => none
def asB (x : AV) (κ : Bool → R) : R :=
  match x with
  | .v (.c (.bool b)) => κ b
  | _ => none
def asS (x : AV) (κ : List UInt8 → R) : R :=
  match x with
  | .v (.c (.str l)) => κ l
  | _ => none
def asL (x : AV) (κ : Nat → List (List D) → Fl → R) : R :=
  match x with
  | .v (.c (.sl sz es fl)) => κ sz es fl
  | _ => none
def asG (x : AV) (κ : List C → R) : R :=
  match x with
  | .v (.agg cs) => κ cs
  | _ => none
def asV (x : AV) (κ : V → R) : R :=
  match x with
  | .v x => κ x
  | _ => none
def onO {α : Type} (o : Option α) (κ : α → R) : R :=
  match o with
  | some a => κ a
  | none => none
def chk (b : Bool) (r : R) : R := bif b then r else none

def ty (E : Cfg) (t : TypeId) (κ : TI → R) : R := onO (nth E.T t) κ
def szOf (E : Cfg) (t : TypeId) : Nat :=
  match nth E.T t with
  | some i => i.size
  | none => 0

/-- A cell that comes from afar, as its type says. -/
def viewC (E : Cfg) (k : TK) (x : C) (κ : C → R) : R :=
  match k with
  | .int k => (match x with | .int k' n => if k' = k then κ (.int k n) else none | _ => none)
  | .bool => (match x with | .bool b => κ (.bool b) | _ => none)
  | .str => (match x with | .str l => κ (.str l) | _ => none)
  | .slice e => (match x with | .sl sz es fl => chk (Nat.beq sz (szOf E e) || es.isEmpty) (κ (.sl (szOf E e) es fl)) | _ => none)
  | .oth => none
  | _ => (match x with | .bld _ _ _ => none | x => κ x)
def viewV (E : Cfg) (k : TK) (x : V) (κ : V → R) : R :=
  match k with
  | .struct _ | .arr _ _ => (match x with | .agg cs => κ (.agg cs) | _ => none)
  | k => (match x with | .c x => viewC E k x fun x => κ (.c x) | _ => none)

/-- n cells at a place. -/
def cut {α : Type} (n : Nat) (cs : List α) (off : Nat) (κ : List α → R) : R :=
  chk (Nat.ble (off + n) cs.length) (κ ((cs.drop off).take n))
/-- Cells with n others put in at a place. -/
def paste (n : Nat) (cs : List C) (off : Nat) (new : List C) (κ : List C → R) : R :=
  chk (Nat.beq new.length n && Nat.ble (off + n) cs.length) (κ (cs.take off ++ new ++ cs.drop (off + n)))

/-- A variable of a type, read at a place of a box. -/
def ldB (E : Cfg) (i : TI) (cs : List C) (off : Nat) (κ : AV → R) : R :=
  match i.k with
  | .struct _ | .arr _ _ => chk (!(Nat.beq i.size 1)) (cut i.size cs off fun l => κ (.v (.agg (l.map C.dem))))
  | k => onO (nth cs off) fun c => viewC E k c fun c => κ (.v (.c c.share))
/-- The same at a place of an element. -/
def ldD (E : Cfg) (i : TI) (ds : List D) (off : Nat) (κ : AV → R) : R :=
  match i.k with
  | .struct _ | .arr _ _ => cut i.size ds off fun l => κ (.v (.agg (l.map D.toC)))
  | k => onO (nth ds off) fun d => viewC E k d.toC fun c => κ (.v (.c c.share))

def toDs : List C → Option (List D)
  | [] => some []
  | c :: r => match c.toD with
    | some d => (match toDs r with | some l => some (d :: l) | none => none)
    | none => none
def cellsD (x : V) (κ : List D → R) : R :=
  match x with
  | .c x => onO x.toD fun d => κ [d]
  | .agg cs => onO (toDs cs) κ

/-- A text's bytes as elements, and back. -/
def bytesD : List UInt8 → List (List D)
  | [] => []
  | b :: r => [.int .u8 (b.toNat : Int)] :: bytesD r
def byteD : List D → Option UInt8
  | [.int .u8 n] => some (UInt8.ofNat n.toNat)
  | _ => none
def textD : List (List D) → Option (List UInt8)
  | [] => some []
  | e :: r => match byteD e with
    | some b => (match textD r with | some l => some (b :: l) | none => none)
    | none => none

def inB (i : Int) (n : Nat) : Bool := decide (0 ≤ i) && decide (i < (n : Int))
def elAt (es : List (List D)) (i : Int) (κ : List D → R) : R := chk (inB i es.length) (κ (es.getD i.toNat []))
def chAt (l : List UInt8) (i : Int) (κ : Int → R) : R := chk (inB i l.length) (κ ((l.getD i.toNat 0).toNat : Int))
def cutL {α : Type} (l : List α) (lo hi : Int) (κ : List α → R) : R :=
  chk (decide (0 ≤ lo) && decide (lo ≤ hi) && decide (hi ≤ (l.length : Int))) (κ ((l.take hi.toNat).drop lo.toNat))

/-! ### Values of constants; operands -/
def cv : Value → AV
  | .bool b => .v (.c (.bool b))
  | .int k n => .v (.c (.int k n))
  | .string s => .v (.c (.str s.data.toList))
  | .slice none 0 0 => .v (.c (.sl 0 [] .own))
  | .nilIface => .v (.c .nif)
  | .pointer none => .v (.c .nptr)
  | .nilFunc => .v (.c .nfn)
  | _ => .top
def ev (e : List (Nat × AV)) : Operand → AV
  | .tmp t => getE e t
  | .const v => cv v
  | .func f => .v (.c (.fn f []))
  | .global _ => .top
/-- A nil slice of a known type. -/
def fixT (E : Cfg) (t : TypeId) (x : AV) : AV :=
  match x with
  | .v (.c (.sl 0 [] .own)) =>
    match nth E.T t with
    | some { k := .slice e, .. } => .v (.c (.sl (szOf E e) [] .own))
    | _ => x
  | x => x

def isSl : AV → Bool
  | .v (.c (.sl _ _ _)) => true
  | _ => false
def isTup : AV → Bool
  | .tup _ _ => true
  | _ => false
/-- A copy, without the right to append. -/
def cp (x : AV) (κ : AV → R) : R :=
  match x with
  | .tup _ _ => none
  | x => κ x.share
/-- An operand's value together with the right to append; who gave it keeps none. -/
def take (s : St) (x : Operand) (κ : AV → St → R) : R :=
  match x with
  | .tmp t => (match getE s.env t with
    | .v (.c (.sl sz es fl)) => κ (.v (.c (.sl sz es fl))) { s with env := setE s.env t (.v (.c (.sl sz es .sh))) }
    | .tup vs used => κ (.tup vs used) { s with env := setE s.env t .top }
    | v => κ v s)
  | x => κ (ev s.env x) s

def ptrsC : C → List PRef
  | .ptr p _ => [p]
  | .fn _ ps => ps
  | _ => []
def ptrsV : V → List PRef
  | .c x => ptrsC x
  | .agg _ => []
def ptrsA : AV → List PRef
  | .v x => ptrsV x
  | _ => []

/-- A cell that may lie in a box or a struct. -/
def noPtr : C → Bool
  | .ptr _ _ => false
  | .bld _ _ _ => false
  | .fn _ _ => false
  | _ => true

def valCells : V → List C
  | .c x => [x]
  | .agg cs => cs

/-! ### Operations that only hand back a value -/
def capsOf : List AV → Option (List PRef)
  | [] => some []
  | .v (.c (.ptr p 0)) :: r => (match capsOf r with | some l => some (p :: l) | none => none)
  | _ => none

def eqC (k : TK) (x y : C) (κ : Bool → R) : R :=
  match k with
  | .int k => asI k (.v (.c x)) fun a => asI k (.v (.c y)) fun b => κ (a == b)
  | .bool => asB (.v (.c x)) fun a => asB (.v (.c y)) fun b => κ (a == b)
  | .str => asS (.v (.c x)) fun a => asS (.v (.c y)) fun b => κ (a == b)
  | _ => none
/-- Scalars one behind the other. -/
def eqRow (k : TK) : List C → List C → (Bool → R) → R
  | [], [], κ => κ true
  | x :: xs, y :: ys, κ => eqC k x y fun a => eqRow k xs ys fun b => κ (a && b)
  | _, _, _ => none
def eqFs (E : Cfg) : List (Nat × TypeId) → List C → List C → (Bool → R) → R
  | [], _, _, κ => κ true
  | (o, t) :: r, xs, ys, κ => ty E t fun i => onO (nth xs o) fun x => onO (nth ys o) fun y => eqC i.k x y fun a => eqFs E r xs ys fun b => κ (a && b)
def eqA (E : Cfg) (i : TI) (x y : AV) (κ : Bool → R) : R :=
  match i.k with
  | .int _ | .bool | .str => asV x fun x => asV y fun y => (match x, y with | .c x, .c y => eqC i.k x y κ | _, _ => none)
  | .arr n e => ty E e fun j => asG x fun xs => asG y fun ys => chk (Nat.beq j.size 1 && Nat.beq xs.length n && Nat.beq ys.length n) (eqRow j.k xs ys κ)
  | .struct fs => asG x fun xs => asG y fun ys => eqFs E fs xs ys κ
  | _ => none

def vI (k : IntKind) (n : Int) : AV := .v (.c (.int k n))
def vB (b : Bool) : AV := .v (.c (.bool b))
def vS (l : List UInt8) : AV := .v (.c (.str l))

def intA (op : BinOp) (k : IntKind) (a b : Int) (κ : AV → R) : R :=
  match op with
  | .add => κ (vI k (k.wrap (a + b)))
  | .sub => κ (vI k (k.wrap (a - b)))
  | .mul => κ (vI k (k.wrap (a * b)))
  | .quo => chk (!(b == 0)) (κ (vI k (k.wrap (a.tdiv b))))
  | .rem => chk (!(b == 0)) (κ (vI k (a.tmod b)))
  | .and => κ (vI k (k.wrap ((BitVec.ofInt k.bits a &&& BitVec.ofInt k.bits b).toNat : Int)))
  | .or => κ (vI k (k.wrap ((BitVec.ofInt k.bits a ||| BitVec.ofInt k.bits b).toNat : Int)))
  | .xor => κ (vI k (k.wrap ((BitVec.ofInt k.bits a ^^^ BitVec.ofInt k.bits b).toNat : Int)))
  | .eql => κ (vB (a == b))
  | .neq => κ (vB (!(a == b)))
  | .lss => κ (vB (decide (a < b)))
  | .leq => κ (vB (decide (a ≤ b)))
  | .gtr => κ (vB (decide (b < a)))
  | .geq => κ (vB (decide (b ≤ a)))
  | _ => none
def shiftA (op : BinOp) (k : IntKind) (a b : Int) (κ : AV → R) : R :=
  match op with
  | .shl => chk (decide (0 ≤ b)) (κ (vI k (k.wrap (a * 2 ^ (min b.toNat k.bits)))))
  | .shr => chk (decide (0 ≤ b)) (κ (vI k (a.fdiv (2 ^ (min b.toNat k.bits)))))
  | _ => none
def strA (op : BinOp) (a b : List UInt8) (κ : AV → R) : R :=
  match op with
  | .add => chk (decide (a.length + b.length ≤ 9223372036854775807)) (κ (vS (a ++ b)))
  | .eql => κ (vB (a == b))
  | .neq => κ (vB (!(a == b)))
  | _ => none
def eqB (E : Cfg) (op : BinOp) (i : TI) (x y : AV) (κ : AV → R) : R :=
  match op with
  | .eql => eqA E i x y fun b => κ (vB b)
  | .neq => eqA E i x y fun b => κ (vB (!b))
  | _ => none
def binA (E : Cfg) (op : BinOp) (t : TypeId) (x y : AV) (κ : AV → R) : R :=
  match op with
  | .shl | .shr => asIk x fun k a => asIk y fun _ b => shiftA op k a b κ
  | op => ty E t fun i => match i.k with
    | .int k => asI k x fun a => asI k y fun b => intA op k a b κ
    | .str => asS x fun a => asS y fun b => strA op a b κ
    | .bool | .arr _ _ | .struct _ => eqB E op i x y κ
    | _ => none

/-- Whether an interface's value is nil. -/
def isNilI : Operand → Bool
  | .const .nilIface => true
  | _ => false
def nilA (E : Cfg) (op : BinOp) (t : TypeId) (x : AV) (κ : AV → R) : R :=
  ty E t fun i => match i.k with
    | .ifc => (match x with
      | .ifc _ _ => (match op with | .eql => κ (vB false) | .neq => κ (vB true) | _ => none)
      | .v (.c .nif) => (match op with | .eql => κ (vB true) | .neq => κ (vB false) | _ => none)
      | _ => none)
    | _ => none

def convA (E : Cfg) (s d : TypeId) (x : AV) (κ : AV → R) : R :=
  ty E s fun i => ty E d fun j => match i.k, j.k with
    | .int k, .int k' => asI k x fun n => κ (vI k' (k'.wrap n))
    | .str, .str => asS x fun l => κ (vS l)
    | .slice e, .str => ty E e fun ei => (match ei.k with
      | .int .u8 => asL x fun _ es _ => onO (textD es) fun l => κ (vS l)
      | _ => none)
    | .str, .slice e => ty E e fun ei => (match ei.k with
      | .int .u8 => asS x fun l => κ (.v (.c (.sl 1 (bytesD l) .sh)))
      | _ => none)
    | _, _ => none

def unA (op : UnOp) (x : AV) (κ : AV → R) : R :=
  match op with
  | .not => asB x fun b => κ (vB (!b))
  | .neg => asIk x fun k n => κ (vI k (k.wrap (0 - n)))
  | .xor => asIk x fun k n => κ (vI k (k.wrap ((BitVec.ofInt k.bits (if k.signed then -1 else k.max) ^^^ BitVec.ofInt k.bits n).toNat : Int)))
  | _ => none

/-- A struct's or array's cells: zero, but for some parts. -/
def fillP (place : Nat → Option (Nat × Nat)) (g : Operand → AV) : List (Nat × Operand) → List C → (List C → R) → R
  | [], cs, κ => κ cs
  | (i, x) :: r, cs, κ => onO (place i) fun (o, n) => asV (g x) fun
    | .c c => chk (noPtr c) (paste n cs o [c.dem] fun cs => fillP place g r cs κ)
    | .agg l => paste n cs o l fun cs => fillP place g r cs κ
def fieldOf (E : Cfg) (fs : List (Nat × TypeId)) (i : Nat) : Option (Nat × Nat) :=
  match nth fs i with
  | some (o, t) => some (o, szOf E t)
  | none => none
def elems (g : Operand → AV) : List (Nat × Operand) → Nat → (List (List D) → R) → R
  | [], _, κ => κ []
  | (i, x) :: r, n, κ => chk (Nat.beq i n) (asV (g x) fun v => cellsD v fun ds => elems g r (n + 1) fun l => κ (ds :: l))
def allLen (n : Nat) : List (List D) → Bool
  | [] => true
  | e :: r => Nat.beq e.length n && allLen n r

def toVs : List AV → Option (List V)
  | [] => some []
  | .v x :: r => (match toVs r with | some l => some (x.share :: l) | none => none)
  | _ => none

def one1 (l : List V) (κ : V → R) : R :=
  match l with
  | [v] => κ v
  | _ => none
/-- What a call hands back. -/
def resA (E : Cfg) (t : TypeId) (vs : List V) (κ : AV → R) : R :=
  ty E t fun i => match i.k with
    | .tup => chk (!(Nat.beq vs.length 1)) (κ (.tup vs []))
    | k => one1 vs fun v => viewV E k v fun v => κ (.v v)

def isAppend : Call → Bool
  | { callee := .builtin .append, .. } => true
  | _ => false
/-- Whether what an operation hands back is appended to in its region. -/
def feeds (ops : List Oper) (d : Option Nat) : Bool :=
  match d with
  | none => false
  | some d => ops.any fun o => match o.op with
    | .call c => isAppend c && (match c.args.toList with | .tmp t :: _ => Nat.beq t d | _ => false)
    | _ => false

def orI (n : Nat) (x : Option AV) (κ : Int → R) : R :=
  match x with
  | none => κ (n : Int)
  | some v => asI .i64 v κ
def slA (E : Cfg) (t : TypeId) (x : AV) (lo hi : Option AV) (κ : AV → R) : R :=
  ty E t fun i => match i.k with
    | .str => asS x fun l => orI 0 lo fun a => orI l.length hi fun b => cutL l a b fun l => κ (vS l)
    | .slice e => asL x fun sz es _ => chk (Nat.beq sz (szOf E e) || es.isEmpty) (orI 0 lo fun a => orI es.length hi fun b => cutL es a b fun es => κ (.v (.c (.sl sz es .sh))))
    | _ => none

def hOp (E : Cfg) (o : Oper) (g : Operand → AV) (mem : PRef → Option (List C)) (κ : AV → R) : R :=
  match o.op with
  | .move x | .assign x => cp (fixT E o.type (g x)) κ
  | .pick c a b => asB (g c) fun t => bif t then cp (g a) κ else cp (g b) κ
  | .build t parts => ty E t fun i => (match i.k with
    | .struct fs => chk (!i.zero.isEmpty && i.zero.all noPtr) (fillP (fieldOf E fs) g parts.toList (i.zero.map C.bz) fun cs => κ (.v (.agg cs)))
    | .arr n e => chk (!i.zero.isEmpty && i.zero.all noPtr) (fillP (fun j => bif Nat.blt j n then some (j * szOf E e, szOf E e) else none) g parts.toList (i.zero.map C.bz) fun cs => κ (.v (.agg cs)))
    | _ => none)
  | .buildSlice t len parts => ty E t fun i => (match i.k with
    | .slice e => ty E e fun ei => chk (!ei.zero.isEmpty) (elems g parts.toList 0 fun es => chk (Nat.beq es.length len && allLen (szOf E e) es && Nat.blt 0 (szOf E e) && Nat.ble (len * szOf E e) 16777216) (κ (.v (.c (.sl (szOf E e) es .ti)))))
    | _ => none)
  | .load t a => ty E t fun i => (match g a with
    | .v (.c (.ptr p off)) => onO (mem p) fun cs => ldB E i cs off κ
    | .el ds off => ldD E i ds off κ
    | _ => none)
  | .nilCheck x => (match g x with
    | .v (.c (.ptr p off)) => κ (.v (.c (.ptr p off)))
    | .v (.c (.fn f ps)) => κ (.v (.c (.fn f ps)))
    | .el ds off => κ (.el ds off)
    | _ => none)
  | .binOp op t x y _ => bif isNilI y then nilA E op t (g x) κ else binA E op t (g x) (g y) κ
  | .unOp op _ x => unA op (g x) κ
  | .convert s d x => convA E s d (g x) κ
  | .makeInterface t x => ty E t fun i => (match i.k with
    | .ifc => none
    | .oth => none
    | _ => asV (g x) fun v => chk ((valCells v).all noPtr) (κ (.ifc t v.share)))
  | .typeAssert x _ t true => ty E t fun i => (match i.k with
    | .ifc => none
    | .oth => none
    | _ => (match g x with
      | .ifc t' v => chk (Nat.beq t' t) (κ (.tup [v, .c (.bool true)] []))
      | _ => none))
  | .makeFunc (.func f) first caps => (match first.toList with
    | [] => onO (capsOf (caps.toList.map g)) fun ps => κ (.v (.c (.fn f ps)))
    | _ => none)
  | .slice t x lo hi none => slA E t (g x) (lo.map g) (hi.map g) κ
  | .fieldAddr s x f => ty E s fun i => (match i.k with
    | .struct fs => onO (nth fs f) fun (o, _) => (match g x with
      | .v (.c (.ptr p off)) => κ (.v (.c (.ptr p (off + o))))
      | .el ds off => κ (.el ds (off + o))
      | _ => none)
    | _ => none)
  | .indexAddr t x i => ty E t fun j => (match j.k with
    | .slice e => asL (g x) fun sz es _ => chk (Nat.beq sz (szOf E e)) (asIk (g i) fun _ i => elAt es i fun d => κ (.el d 0))
    | .arr n e => ty E e fun _ => asIk (g i) fun _ i => chk (inB i n) (match g x with
      | .v (.c (.ptr p off)) => κ (.v (.c (.ptr p (off + i.toNat * szOf E e))))
      | .el ds off => κ (.el ds (off + i.toNat * szOf E e))
      | _ => none)
    | _ => none)
  | .index t x i => ty E t fun j => (match j.k with
    | .str => asS (g x) fun l => asIk (g i) fun _ i => chAt l i fun n => κ (vI .u8 n)
    | .arr n e => ty E e fun ei => asG (g x) fun cs => asIk (g i) fun _ i => chk (inB i n && Nat.beq ei.size 1 && !ei.k.isAggB) (onO (nth cs i.toNat) fun c => viewC E ei.k c fun c => κ (.v (.c c.share)))
    | _ => none)
  | .extract x i => (match g x with
    | .tup vs used => chk (!memN used i) (ty E o.type fun j => onO (nth vs i) fun v => viewV E j.k v fun v => κ (.v v.share))
    | _ => none)
  | .call { callee := .builtin .len, args := a, argTypes := ts } => (match a.toList, ts.toList with
    | [x], t :: _ => ty E t fun i => (match i.k with
      | .str => asS (g x) fun l => κ (vI .i64 (l.length : Int))
      | .slice _ => asL (g x) fun _ es _ => κ (vI .i64 (es.length : Int))
      | _ => none)
    | _, _ => none)
  | .call { callee := .builtin .min, args := a, .. } => (match a.toList with
    | [x, y] => asI .i64 (g x) fun x => asI .i64 (g y) fun y => κ (vI .i64 (if y < x then y else x))
    | _ => none)
  | .call { callee := .builtin .max, args := a, .. } => (match a.toList with
    | [x, y] => asI .i64 (g x) fun x => asI .i64 (g y) fun y => κ (vI .i64 (if x < y then y else x))
    | _ => none)
  | _ => none

/-! ### Operations that change boxes, or hand on the right to append -/
def renPs (ps : List PRef) : List PRef → Option (List PRef)
  | [] => some []
  | q :: r => (match ixP ps q 0, renPs ps r with
    | some i, some l => some (.out i :: l)
    | _, _ => none)
def renP (ps : List PRef) (x : C) : Option C :=
  match x with
  | .ptr p off => (match ixP ps p 0 with | some i => some (.ptr (.out i) off) | none => none)
  | .fn f qs => (match renPs ps qs with | some l => some (.fn f l) | none => none)
  | .sl sz es _ => some (.sl sz es .sh)
  | c => some c
def renV (ps : List PRef) (x : V) : Option V :=
  match x with
  | .c x => (match renP ps x with | some y => some (.c y) | none => none)
  | x => some x
def renVs (ps : List PRef) : List AV → Option (List V)
  | [] => some []
  | .v x :: r => (match renV ps x, renVs ps r with
    | some y, some l => some (y :: l)
    | _, _ => none)
  | _ => none
def boxesOf (s : St) : List PRef → Option (List (List C))
  | [] => some []
  | p :: r => (match s.box p, boxesOf s r with
    | some b, some l => some (b :: l)
    | _, _ => none)
def putBoxes (s : St) : List PRef → List (List C) → Nat → St
  | [], _, _ => s
  | p :: r, bs, i => putBoxes (s.setBox p (bs.getD i [])) r bs (i + 1)

/-- A call's end handed on. -/
def onRes (o : R) (n : Nat) (κ : List V → List (List C) → R) (κp : TypeId → V → List (List C) → R) : R :=
  match o with
  | some (.ret vs bs) => chk (Nat.beq bs.length n) (κ vs bs)
  | some (.pan t x bs) => chk (Nat.beq bs.length n) (κp t x bs)
  | none => none

abbrev Callee := FuncId → List V → List (List C) → R

def callA (E : Cfg) (Φ : Callee) (s : St) (t : TypeId) (f : AV) (args : List AV) (κ : AV → St → R) (κp : TypeId → V → St → R) : R :=
  match f with
  | .v (.c (.fn f caps)) =>
    let args := args ++ caps.map fun p => .v (.c (.ptr p 0))
    let ps := dedupP (args.flatMap ptrsA) []
    onO (renVs ps args) fun vs => onO (boxesOf s ps) fun bs =>
      onRes (Φ f vs bs) ps.length
        (fun rs bs => resA E t rs fun v => κ v (putBoxes s ps bs 0))
        (fun t x bs => κp t x (putBoxes s ps bs 0))
  | _ => none

def appendA (E : Cfg) (s : St) (t : TypeId) (a x : Operand) (κ : AV → St → R) : R :=
  ty E t fun i => match i.k with
    | .slice e => ty E e fun ei => take s a fun av s => asL av fun sz es fl => asL (ev s.env x) fun sz2 es2 _ =>
      chk ((Nat.beq sz ei.size || es.isEmpty) && (Nat.beq sz2 ei.size || es2.isEmpty) && fl.ok && Nat.blt 0 ei.size && Nat.blt 0 ei.bytes && !ei.zero.isEmpty) (chk (decide ((es.length + es2.length) * ei.bytes ≤ 140737488355328))
        (κ (.v (.c (.sl ei.size (es ++ es2) .own))) s))
    | _ => none

def newLoc (s : St) (d : Option Nat) (b : List C) (κ : AV → St → R) : R :=
  match d with
  | some n => (match assoc s.loc n with
    | none => κ (.v (.c (.ptr (.loc n) 0))) { s with loc := (n, b) :: s.loc }
    | some _ => none)
  | none => none

def isM (o : Oper) (g : Operand → AV) (ops : List Oper) : Bool :=
  match o.op with
  | .alloc _ | .box _ _ | .store _ _ _ | .defer _ | .panic _ => true
  | .move x => isTup (g x) || (isSl (g x) && feeds ops o.dst)
  | .assign x => isTup (g x) || isSl (g x)
  | .load _ a => (match g a with | .v (.c (.ptr _ _)) => feeds ops o.dst | _ => false)
  | .extract x i => (match g x with | .tup vs _ => (match nth vs i with | some (.c (.sl _ _ _)) => true | _ => false) | _ => false)
  | .call { callee := .builtin .append, .. } => true
  | .call { callee := .value _, .. } => true
  | _ => false

def extA (E : Cfg) (s : St) (type : TypeId) (x : Operand) (i : Nat) (κ : AV → St → R) : R :=
  match x with
  | .tmp t => (match getE s.env t with
    | .tup vs used => chk (!memN used i) (ty E type fun j => onO (nth vs i) fun v => viewV E j.k v fun v => κ (.v v) { s with env := setE s.env t (.tup vs (i :: used)) })
    | _ => none)
  | _ => none

def mOp (E : Cfg) (Φ : Callee) (o : Oper) (s : St) (κ : AV → St → R) (κp : TypeId → V → St → R) : R :=
  match o.op with
  | .alloc t => ty E t fun i => chk (!i.zero.isEmpty) (newLoc s o.dst i.zero κ)
  | .box t x => ty E t fun i => asV (ev s.env x).share fun v => chk (Nat.beq (valCells v).length i.size && (valCells v).all noPtr) (newLoc s o.dst (valCells v) κ)
  | .store t a x => ty E t fun i => (match ev s.env a with
    | .v (.c (.ptr p off)) => take s x fun v s => asV (fixT E t v) fun v => chk ((valCells v).all noPtr) (onO (s.box p) fun cs => chk (cs.all noPtr) (paste i.size cs off (valCells v) fun cs => κ .und (s.setBox p cs)))
    | _ => none)
  | .move x | .assign x => take s x fun v s => κ (fixT E o.type v) s
  | .load t a => ty E t fun i => (match i.k, ev s.env a with
    | .slice e, .v (.c (.ptr p off)) => onO (s.box p) fun cs => onO (nth cs off) fun c0 => viewC E (.slice e) c0 fun c =>
        paste 1 cs off [c0.dem] fun cs => κ (.v (.c c)) (s.setBox p cs)
    | _, _ => none)
  | .extract x i => extA E s o.type x i κ
  | .call { callee := .builtin .append, args := a, argTypes := ts } => (match a.toList, ts.toList with
    | [a, x], [t, t'] => chk (Nat.beq t t') (appendA E s t a x κ)
    | _, _ => none)
  | .call { callee := .value f, args := a, .. } => callA E Φ s o.type (ev s.env f) ((a.toList.map (ev s.env)).map AV.share) κ κp
  | .defer { callee := .value f, args := a, .. } => (match a.toList, ev s.env f, s.dfr with
    | [], .v (.c (.fn f ps)), none => onO (E.dfr f) fun _ => κ .und { s with dfr := some (f, ps) }
    | _, _, _ => none)
  | .panic x => (match ev s.env x with
    | .ifc t v => κp t v s
    | _ => none)
  | _ => none

def opStep (E : Cfg) (Φ : Callee) (ops : List Oper) (o : Oper) (s : St) (κ : St → R) (κp : TypeId → V → St → R) : R :=
  bif isM o (ev s.env) ops then mOp E Φ o s (fun v s => κ (s.put o.dst v)) κp
  else hOp E o (ev s.env) s.box (fun v => κ (s.put o.dst v))

/-- Whether an operation is wanted: what is known of its guard then. -/
def guardA (ops : List Oper) (o : Oper) (s : St) (yes no : St → R) : R :=
  match o.guard with
  | none => yes s
  | some (j, want) => onO (nth ops j) fun oj => onO oj.dst fun d => (match getE s.env d with
    | .und => no s
    | .v (.c (.bool b)) =>
      bif b then (let s := { s with env := setE s.env d (vB true) }; bif want then yes s else no s)
      else (let s := { s with env := setE s.env d (vB false) }; bif want then no s else yes s)
    | _ => none)

def runOps (E : Cfg) (Φ : Callee) (ops : List Oper) : List Oper → St → (St → R) → (TypeId → V → St → R) → R
  | [], s, κ, _ => κ s
  | o :: r, s, κ, κp => guardA ops o s
      (fun s => opStep E Φ ops o s (fun s => runOps E Φ ops r s κ κp) κp)
      (fun s => runOps E Φ ops r (s.put o.dst .und) κ κp)

/-! ### Code -/
def mentions (e : List (Nat × AV)) (d : Option (FuncId × List PRef)) : List PRef :=
  dedupP (e.flatMap (fun x => ptrsA x.2) ++ (match d with | some (_, ps) => ps | none => [])) []
def canonLoc (loc : List (Nat × List C)) : List PRef → List (Nat × List C)
  | [] => []
  | .loc n :: r => (match assoc loc n with | some b => (n, b) :: canonLoc loc r | none => canonLoc loc r)
  | _ :: r => canonLoc loc r
def canonE (e : List (Nat × AV)) : List Nat → List (Nat × AV)
  | [] => []
  | t :: r => (t, getE e t) :: canonE e r
def canon (ts : List Nat) (s : St) : St :=
  { s with env := canonE s.env ts, loc := canonLoc s.loc (mentions (canonE s.env ts) s.dfr) }

def firstR : Code → Option Nat
  | .region id _ _ => some id
  | .seq a _ => firstR a
  | .block _ b => firstR b
  | .loop b => firstR b
  | _ => none
def pre (E : Cfg) (f : FuncId) (c : Code) (s : St) : St :=
  match firstR c with
  | some id => (match assoc (E.live f) id with | some (i, _) => canon i s | none => s)
  | none => s
def post (E : Cfg) (f : FuncId) (id : Nat) (s : St) : St :=
  match assoc (E.live f) id with
  | some (_, o) => canon o s
  | none => s

def loopN : Nat → (St → (St → R) → R) → St → R
  | 0, _, _ => none
  | n + 1, body, s => body s (fun s => loopN n body s)

/-! ### Regions that draw their order: which operations must not conflict -/
def noneP : TypeId → V → St → R := fun _ _ _ => none
def stepOP (E : Cfg) (Φ : Callee) (ops : List Oper) (o : Oper) (s : St) (κ : St → R) (κp : TypeId → V → St → R) : R :=
  guardA ops o s (fun s => opStep E Φ ops o s κ κp) (fun s => κ (s.put o.dst .und))
def stepO (E : Cfg) (Φ : Callee) (ops : List Oper) (o : Oper) (s : St) (κ : St → R) : R := stepOP E Φ ops o s κ noneP

def tmpOf : Operand → List Nat
  | .tmp t => [t]
  | _ => []
def guardT (ops : List Oper) (o : Oper) : List Nat :=
  match o.guard with
  | some (j, _) => (match nth ops j with | some oj => oj.dst.toList | none => [])
  | none => []
/-- What an operation looks at; what it takes from the temporaries; which boxes it touches. -/
def readsOf (ops : List Oper) (o : Oper) : List Nat := o.op.operands.toList.flatMap tmpOf ++ guardT ops o
def takesOf (o : Oper) : List Nat :=
  match o.op with
  | .store _ _ x => tmpOf x
  | .move x | .assign x | .extract x _ => tmpOf x
  | .call { callee := .builtin .append, args := a, .. } => (match a.toList with | x :: _ => tmpOf x | [] => [])
  | _ => []
def locOf (d : Option Nat) : List PRef :=
  match d with
  | some n => [.loc n]
  | none => []
def touches (o : Oper) (g : Operand → AV) : List PRef :=
  match o.op with
  | .load _ a => ptrsA (g a)
  | .store _ a _ => ptrsA (g a)
  | .alloc _ | .box _ _ => locOf o.dst
  | .call { callee := .value f, args := a, .. } => ptrsA (g f) ++ a.toList.flatMap fun x => ptrsA (g x)
  | _ => []
def disj (a b : List PRef) : Bool := a.all fun p => match ixP b p 0 with | some _ => false | none => true
def apartN (a b : List Nat) : Bool := a.all fun n => !memN b n

/-- An operation with what was found of it: the boxes it touches; whether it changes anything but its own temporary. -/
structure Ann where
  o : Oper
  T : List PRef
  m : Bool
def annOf (ops : List Oper) (o : Oper) (s : St) : Ann := ⟨o, touches o (ev s.env), isM o (ev s.env) ops⟩
def isLd (o : Oper) : Bool :=
  match o.op with
  | .load _ _ => true
  | _ => false
/-- Two readings of boxes, one of which may take the right to append. -/
def twoLd (a b : Ann) : Bool := isLd a.o && isLd b.o && !(a.m && b.m)
/-- Two operations that may come in either order. -/
def okPair (ops : List Oper) (a b : Ann) : Bool :=
  apartN a.o.dst.toList (readsOf ops b.o) && apartN b.o.dst.toList (readsOf ops a.o) && apartN a.o.dst.toList b.o.dst.toList &&
  (!(a.m || b.m) || disj a.T b.T || twoLd a b) && (!a.m || apartN (takesOf a.o) (readsOf ops b.o)) && (!b.m || apartN (takesOf b.o) (readsOf ops a.o))
def okAll (ops : List Oper) (b : Ann) (cl : List Nat) : List Ann → Nat → Bool
  | [], _ => true
  | a :: r, i => (memN cl i || okPair ops a b) && okAll ops b cl r (i + 1)
/-- The one list's members put to the other's. -/
def unionN : List Nat → List Nat → List Nat
  | [], b => b
  | k :: a, b => bif memN b k then unionN a b else unionN a (k :: b)
def isDefer (o : Oper) : Bool :=
  match o.op with
  | .defer _ => true
  | _ => false
def afterOk (o : Oper) (j : Nat) : Bool := o.after.toList.all fun e => !Region.binds .any e || Nat.blt e.on j
/-- What comes ahead of an operation in every order. -/
def closOf (o : Oper) (cl : List (List Nat)) : List Nat := o.after.toList.foldl (fun l e => bif Region.binds .any e then unionN (e.on :: (cl.getD e.on [])) l else l) []
/-- The operations behind the k-th one come behind it in every order. -/
def laterOk (k : Nat) : Nat → List Oper → List (List Nat) → Bool
  | _, [], _ => true
  | n, o :: r, cl => afterOk o n && memN (closOf o cl) k && laterOk k (n + 1) r (cl ++ [closOf o cl])
def isLocP : PRef → Bool
  | .loc _ => true
  | .out _ => false
/-- The operations ahead of one come ahead of it in every order, or touch nothing but what is left behind. -/
def earlierOk (c : List Nat) : List Ann → Nat → Bool
  | [], _ => true
  | a :: r, i => (memN c i || !a.m || a.T.all isLocP) && earlierOk c r (i + 1)
def runD (E : Cfg) (Φ : Callee) (ops : List Oper) : List Oper → List (List Nat) → List Ann → St → (St → R) → (TypeId → V → St → R) → R
  | [], _, _, s, κ, _ => κ s
  | o :: r, cl, acc, s, κ, κp =>
    chk (!isDefer o && afterOk o acc.length && okAll ops (annOf ops o s) (closOf o cl) acc 0)
      (stepOP E Φ ops o s (fun s' => runD E Φ ops r (cl ++ [closOf o cl]) (acc ++ [annOf ops o s]) s' κ κp)
        (fun t x s' => chk (s.dfr.isNone && laterOk acc.length (acc.length + 1) r (cl ++ [closOf o cl]) && earlierOk (closOf o cl) acc 0) (κp t x s')))

abbrev Loop := (St → (St → R) → R) → St → R
def exec (E : Cfg) (Φ : Callee) (n : Loop) (f : FuncId) : Code → St → (St → R) → (Nat → St → R) → (St → R) → (TypeId → V → St → R) → R
  | .skip, s, κ, _, _, _ => κ s
  | .ret, s, _, _, κr, _ => κr s
  | .exit id, s, _, κx, _, _ => κx id s
  | .seq a b, s, κ, κx, κr, κp => exec E Φ n f a s (fun s => exec E Φ n f b (pre E f b s) κ κx κr κp) κx κr κp
  | .cond c a b, s, κ, κx, κr, κp => asB (ev s.env c) fun t => bif t then exec E Φ n f a s κ κx κr κp else exec E Φ n f b s κ κx κr κp
  | .block id b, s, κ, κx, κr, κp => exec E Φ n f b s κ (fun i s => bif Nat.beq i id then κ s else κx i s) κr κp
  | .loop b, s, _, κx, κr, κp => n (fun s k => exec E Φ n f b (pre E f b s) k κx κr κp) s
  | .region id ops draw, s, κ, _, _, κp =>
    bif draw then chk (assoc (E.live f) id).isSome (runD E Φ ops.toList ops.toList [] [] s (fun s => κ (post E f id s)) κp)
    else runOps E Φ ops.toList ops.toList s (fun s => κ (post E f id s)) κp
  | _, _, _, _, _, _ => none

/-! ### Functions -/
def retA (E : Cfg) (s : St) : List ResultVar → (List V → R) → R
  | [], κ => κ []
  | .tmp t :: r, κ => asV (getE s.env t) fun v => chk ((valCells v).all noPtr) (retA E s r fun l => κ (v :: l))
  | .cell a t :: r, κ => ty E t fun i => (match getE s.env a with
    | .v (.c (.ptr (.loc n) off)) => onO (assoc s.loc n) fun cs => chk (cs.all noPtr) (match i.k with
      | .struct _ | .arr _ _ => cut i.size cs off fun l => retA E s r fun q => κ (.agg (l.map C.dem) :: q)
      | k => onO (nth cs off) fun c => viewC E k c fun c => retA E s r fun q => κ (.c c :: q))
    | _ => none)

def addrs : List ResultVar → List Nat
  | [] => []
  | .cell a _ :: r => a :: addrs r
  | .tmp t :: r => t :: addrs r
def distinctN : List Nat → Bool
  | [] => true
  | x :: r => !memN r x && distinctN r
def resPtrs (s : St) : List ResultVar → List PRef
  | [] => []
  | .cell a _ :: r => ptrsA (getE s.env a) ++ resPtrs s r
  | _ :: r => resPtrs s r
def distinctP : List PRef → Bool
  | [] => true
  | p :: r => (match ixP r p 0 with | some _ => false | none => true) && distinctP r

def retR (E : Cfg) (fn : Func) (s : St) : R :=
  chk (distinctN (addrs fn.results.toList) && distinctP (resPtrs s fn.results.toList)) (retA E s fn.results.toList fun vs => some (.ret vs s.out))

/-- The body has ended: what is deferred runs, then the results are read. -/
def endK (E : Cfg) (fn : Func) (pv : Option (TypeId × V)) (s : St) : R :=
  match s.dfr with
  | none => (match pv with
    | none => retR E fn s
    | some (t, x) => some (.pan t x s.out))
  | some (g, ps) => onO (E.dfr g) fun h => chk (distinctP ps) (onO (boxesOf s ps) fun bs => onO (h pv bs) fun bs => retR E fn (putBoxes s ps bs 0))
def retK (E : Cfg) (fn : Func) (s : St) : R := endK E fn none s
def panK (E : Cfg) (fn : Func) (t : TypeId) (x : V) (s : St) : R := endK E fn (some (t, x)) s

def env0 : List V → Nat → List (Nat × AV)
  | [], _ => []
  | v :: r, i => (i, .v v) :: env0 r (i + 1)

def execF (E : Cfg) (Φ : Callee) (n : Loop) (f : FuncId) (fn : Func) (args : List V) (bs : List (List C)) : R :=
  match fn.body with
  | none => none
  | some c => exec E Φ n f c (pre E f c { env := env0 args 0, loc := [], out := bs, dfr := none }) (retK E fn) (fun _ _ => none) (retK E fn) (panK E fn)

def callN (E : Cfg) : Nat → Callee
  | 0, _, _, _ => none
  | k + 1, f, args, bs => match E.prim f with
    | some p => p args bs
    | none => onO (E.fns f) fun fn => execF E (callN E k) (loopN k) f fn args bs

end Go.Proofs.YtmbhohnoolflbaaDoorX
