/- The abstract evaluator: its values, its state, and what each operation of the translated code does to them. Definitions alone. -/
import Derived.WalkKit
import Derived.KernelRfl
import Derived.Laws.AppendOwn
import Derived.Laws.OwnMore
set_option linter.unusedVariables false
namespace Go.Pev
open Go

/-- The types of what slices hold, of arguments and of results. -/
inductive Ty where
  | int (k : IntKind)
  | bool
  | str
  | pair (a b : Ty)
  | sl (e : Ty)
  deriving DecidableEq

@[reducible] def Ty.I : Ty → Type
  | .int _ => Int
  | .bool => Bool
  | .str => ByteArray
  | .pair a b => a.I × b.I
  | .sl e => List e.I

def Ty.size : Ty → Nat
  | .pair a b => a.size + b.size
  | _ => 1

def Ty.dflt : (t : Ty) → t.I
  | .int _ => (0 : Int)
  | .bool => false
  | .str => ByteArray.empty
  | .pair a b => (a.dflt, b.dflt)
  | .sl _ => []

/-- What one cell holds. -/
inductive SV where
  | undef
  | int (k : IntKind) (n : Int)
  | bool (b : Bool)
  | str (s : ByteArray)
  | view (e : Ty) (xs : List e.I)
  | nilsl
  | nilp
  | row (id : Nat)
  | ptr (id off : Nat)
  | eptr (e : Ty) (x : e.I) (off : Nat)
  | clo (f : FuncId) (ids : List Nat)

inductive AV where
  | sc (s : SV)
  | agg (cs : List SV)
  | tup (as : List (Bool × List SV))

inductive Blk where
  | none
  | dead
  | box (cs : List SV)
  | row (tid : TypeId) (e : Ty) (xs : List e.I)
  /-- a row of zeros that nobody may look at yet: 'copy' fills it -/
  | raw (tid : TypeId) (e : Ty) (n : Nat)

structure AS where
  T : Nat → AV
  H : Nat → Blk

def upd {α : Type} (f : Nat → α) (k : Nat) (v : α) : Nat → α := fun n => bif Nat.beq n k then v else f n
def upds {α : Type} (f : Nat → α) : List (Nat × α) → Nat → α
  | [] => f
  | (k, v) :: l => upds (upd f k v) l

def castL (a b : Ty) (xs : List a.I) : Option (List b.I) := if h : a = b then some (h ▸ xs) else none

/-- What is known of a type. -/
inductive TD where
  | int (k : IntKind)
  | bool
  | str
  | struct (fs : List (Nat × Nat))
  | slice (e : TypeId)
  | other

structure TI where
  d : TD
  size : Nat
  bytes : Nat
  zero : List SV
  ty : Ty
  tok : Bool
  flat : Bool

def TI.agg (ti : TI) : Bool := match ti.d with | .struct _ => true | _ => false

def cellsOf : (t : Ty) → t.I → List SV
  | .int k, n => [.int k n]
  | .bool, b => [.bool b]
  | .str, s => [.str s]
  | .pair a b, x => cellsOf a x.1 ++ cellsOf b x.2
  | .sl e, xs => [.view e xs]

/-- What a slice holds, by the heap. -/
def viewOf (H : Nat → Blk) (e : Ty) : SV → Option (List e.I)
  | .view e' xs => castL e' e xs
  | .nilsl => some []
  | .row id => match H id with
    | .row _ e' xs => castL e' e xs
    | _ => none
  | _ => none

def parse (H : Nat → Blk) : (t : Ty) → List SV → Option (t.I × List SV)
  | .int k, .int k' n :: r => bif decide (k = k') then some (n, r) else none
  | .bool, .bool b :: r => some (b, r)
  | .str, .str s :: r => some (s, r)
  | .pair a b, l => match parse H a l with
    | some (x, l) => match parse H b l with
      | some (y, l) => some ((x, y), l)
      | none => none
    | none => none
  | .sl e, s :: r => match viewOf H e s with
    | some xs => some (xs, r)
    | none => none
  | _, _ => none

def parseAll (H : Nat → Blk) (t : Ty) (l : List SV) : Option t.I :=
  match parse H t l with
  | some (x, []) => some x
  | _ => none

/-- so many elements -/
def parseN (H : Nat → Blk) (t : Ty) : Nat → List SV → Option (List t.I × List SV)
  | 0, l => some ([], l)
  | n + 1, l => match parse H t l with
    | some (x, l) => match parseN H t n l with
      | some (xs, l) => some (x :: xs, l)
      | none => none
    | none => none

def setCells : List SV → Nat → List SV → List SV
  | cs, _, [] => cs
  | cs, i, v :: vs => setCells (cs.set i v) (i + 1) vs

def AV.cells : AV → Option (List SV)
  | .sc .undef => none
  | .sc s => some [s]
  | .agg cs => some cs
  | .tup _ => none

def mkAV (agg : Bool) (cs : List SV) : Option AV :=
  bif agg then some (.agg cs) else match cs with
    | [s] => some (.sc s)
    | _ => none

def getBlk (st : AS) (id : Nat) : Blk := st.H id

def svOfConst : Value → SV
  | .int k n => .int k n
  | .bool b => .bool b
  | .string s => .str s
  | .slice none 0 0 => .nilsl
  | .pointer none => .nilp
  | _ => .undef

def evalO (st : AS) : Operand → AV
  | .tmp t => st.T t
  | .const v => .sc (svOfConst v)
  | .global _ => .sc .undef
  | .func f => .sc (.clo f [])

def fillCells (fs : List (Nat × Nat)) (st : AS) : List SV → List (Nat × Operand) → Option (List SV)
  | cs, [] => some cs
  | cs, (i, x) :: r => match fs[i]?, (evalO st x).cells with
    | some (off, sz), some vs => bif Nat.beq vs.length sz && Nat.ble (off + vs.length) cs.length then fillCells fs st (setCells cs off vs) r else none
    | _, _ => none

/-- One value that a call hands over or back: cells, and whether they are a struct. -/
inductive RC where
  | s (v : SV)
  | own (tid : TypeId) (e : Ty) (xs : List e.I)
  | nbox (cs : List SV)

inductive XA where
  | val (agg : Bool) (cs : List SV)
  | box (cs : List SV)
  | clo (f : FuncId) (css : List (List SV))

structure Res where
  rets : List (Bool × List RC)
  boxes : List (List SV)

/-- What the callees do. -/
def Env := FuncId → List XA → {R : Type} → (Res → Option R) → Option R

def resolveSV (H : Nat → Blk) : SV → Option SV
  | .int k n => some (.int k n)
  | .bool b => some (.bool b)
  | .str s => some (.str s)
  | .view e xs => some (.view e xs)
  | .nilsl => some .nilsl
  | .row id => match H id with
    | .row _ e xs => some (.view e xs)
    | _ => none
  | _ => none

def resolveAll (H : Nat → Blk) : List SV → Option (List SV)
  | [] => some []
  | s :: r => match resolveSV H s with
    | some s' => match resolveAll H r with
      | some r' => some (s' :: r')
      | none => none
    | none => none

def boxOf (H : Nat → Blk) (id : Nat) : Option (List SV) :=
  match H id with
  | .box cs => resolveAll H cs
  | _ => none

def boxesOf (H : Nat → Blk) : List Nat → Option (List (List SV))
  | [] => some []
  | i :: r => match boxOf H i with
    | some cs => match boxesOf H r with
      | some css => some (cs :: css)
      | none => none
    | none => none

/-- An argument, and the boxes that it leads to. -/
def argOf (H : Nat → Blk) : AV → Option (XA × List Nat)
  | .sc (.ptr id 0) => match boxOf H id with
    | some cs => some (.box cs, [id])
    | none => none
  | .sc (.clo f ids) => match boxesOf H ids with
    | some css => some (.clo f css, ids)
    | none => none
  | .sc s => match resolveSV H s with
    | some s' => some (.val false [s'], [])
    | none => none
  | .agg cs => match resolveAll H cs with
    | some cs' => some (.val true cs', [])
    | none => none
  | .tup _ => none

def argsOf (H : Nat → Blk) : List AV → Option (List XA × List Nat)
  | [] => some ([], [])
  | a :: r => match argOf H a with
    | some (x, i) => match argsOf H r with
      | some (xs, is) => some (x :: xs, i ++ is)
      | none => none
    | none => none

/-- The number of a thing that a call at slot 'dst' hands back. -/
def freshId (dst k : Nat) : Nat := 100000 * (k + 1) + dst

def importRC (H : Nat → Blk) (dst : Nat) : Nat → List RC → Option (List SV × List (Nat × Blk) × Nat)
  | k, [] => some ([], [], k)
  | k, .s v :: r => match importRC H dst k r with
    | some (vs, us, k') => some (v :: vs, us, k')
    | none => none
  | k, .own tid e xs :: r => match H (freshId dst k), importRC H dst (k + 1) r with
    | .none, some (vs, us, k') => some (.row (freshId dst k) :: vs, (freshId dst k, .row tid e xs) :: us, k')
    | _, _ => none
  | k, .nbox cs :: r => match H (freshId dst k), importRC H dst (k + 1) r with
    | .none, some (vs, us, k') => some (.ptr (freshId dst k) 0 :: vs, (freshId dst k, .box cs) :: us, k')
    | _, _ => none

def importAll (H : Nat → Blk) (dst : Nat) : Nat → List (Bool × List RC) → Option (List (Bool × List SV) × List (Nat × Blk))
  | _, [] => some ([], [])
  | k, (b, cs) :: r => match importRC H dst k cs with
    | some (vs, us, k') => match importAll H dst k' r with
      | some (l, us') => some ((b, vs) :: l, us ++ us')
      | none => none
    | none => none

def retAV : List (Bool × List SV) → Option AV
  | [] => some (.tup [])
  | [(b, cs)] => mkAV b cs
  | l => some (.tup l)

def zipBox : List Nat → List (List SV) → Option (List (Nat × Blk))
  | [], [] => some []
  | i :: is, cs :: css => match zipBox is css with
    | some l => some ((i, .box cs) :: l)
    | none => none
  | _, _ => none

def nodup : List Nat → Bool
  | [] => true
  | x :: l => !(l.any (Nat.beq x)) && nodup l

def closeIds : AV → Option (FuncId × List Nat)
  | .sc (.clo f ids) => some (f, ids)
  | _ => none

def cmpOf : BinOp → Int → Int → Option Bool
  | .eql, x, y => some (x == y)
  | .neq, x, y => some (x != y)
  | .lss, x, y => some (decide (x < y))
  | .leq, x, y => some (decide (x ≤ y))
  | .gtr, x, y => some (decide (x > y))
  | .geq, x, y => some (decide (x ≥ y))
  | _, _, _ => none

def bitsOf (op : BinOp) (k : IntKind) (x y : Int) : Option Int :=
  match op with
  | .and => some (k.wrap ((BitVec.ofInt k.bits x &&& BitVec.ofInt k.bits y).toNat : Int))
  | .or => some (k.wrap ((BitVec.ofInt k.bits x ||| BitVec.ofInt k.bits y).toNat : Int))
  | .xor => some (k.wrap ((BitVec.ofInt k.bits x ^^^ BitVec.ofInt k.bits y).toNat : Int))
  | _ => none

/-- what two lists of plain cells of these types are, one by one -/
def sameCells : List Ty → List SV → List SV → Option Bool
  | [], [], [] => some true
  | .int k :: ts, .int k1 a :: r, .int k2 b :: s => match decide (k1 = k), decide (k2 = k), sameCells ts r s with
    | true, true, some c => some ((a == b) && c)
    | _, _, _ => none
  | .bool :: ts, .bool a :: r, .bool b :: s => match sameCells ts r s with
    | some c => some ((a == b) && c)
    | _ => none
  | _, _, _ => none

def elemOf (TAB : TypeId → Option TI) (t : TypeId) : Option (TypeId × TI) :=
  match TAB t with
  | some ti => match ti.d with
    | .slice e => match TAB e with
      | some te => bif te.tok then some (e, te) else none
      | none => none
    | _ => none
  | none => none

section
variable {R : Type}

def binK (EQ : TypeId → Option (List Ty)) (op : BinOp) (xt : TypeId) (x y : AV) (K : AV → Option R) : Option R :=
  match x, y with
  | .sc (.int k a), .sc (.int k' b) =>
    match op with
    | .shl => bif decide (b < 0) then none else K (.sc (.int k (k.wrap (a * 2 ^ (min b.toNat k.bits)))))
    | .shr => bif decide (b < 0) then none else K (.sc (.int k (a.fdiv (2 ^ (min b.toNat k.bits)))))
    | op => bif decide (k = k') then match op with
      | .add => K (.sc (.int k (k.wrap (a + b))))
      | .sub => K (.sc (.int k (k.wrap (a - b))))
      | .mul => K (.sc (.int k (k.wrap (a * b))))
      | .quo => bif b == 0 then none else K (.sc (.int k (k.wrap (a.tdiv b))))
      | .rem => bif b == 0 then none else K (.sc (.int k (a.tmod b)))
      | .and => match bitsOf .and k a b with | some c => K (.sc (.int k c)) | none => none
      | .or => match bitsOf .or k a b with | some c => K (.sc (.int k c)) | none => none
      | .xor => match bitsOf .xor k a b with | some c => K (.sc (.int k c)) | none => none
      | op => match cmpOf op a b with | some c => K (.sc (.bool c)) | none => none
      else none
  | .sc (.bool a), .sc (.bool b) =>
    match EQ xt with
    | some [] => match op with
      | .eql => K (.sc (.bool (a == b)))
      | .neq => K (.sc (.bool (a != b)))
      | _ => none
    | _ => none
  | .agg xs, .agg ys => match EQ xt with
    | some (t :: ts) => match op with
      | .eql => match sameCells (t :: ts) xs ys with | some c => K (.sc (.bool c)) | none => none
      | .neq => match sameCells (t :: ts) xs ys with | some c => K (.sc (.bool (!c))) | none => none
      | _ => none
    | _ => none
  | _, _ => none

/-- The cells at an address. -/
def loadCellsA (st : AS) (a : SV) (n : Nat) : Option (List SV) :=
  match a with
  | .ptr id off => match st.H id with
    | .box cs => bif Nat.ble (off + n) cs.length then some ((cs.drop off).take n) else none
    | _ => none
  | .eptr e x off => bif Nat.ble (off + n) e.size then some (((cellsOf e x).drop off).take n) else none
  | _ => none

def indexK (st : AS) (e : Ty) (x : SV) (i : Int) (K : AV → Option R) : Option R :=
  match viewOf st.H e x with
  | some xs => bif decide (0 ≤ i) && decide (i < xs.length) then K (.sc (.eptr e (xs.getD i.toNat e.dflt) 0)) else none
  | none => none

def intO (st : AS) (o : Option Operand) (d : Int) : Option Int :=
  match o with
  | none => some d
  | some x => match evalO st x with
    | .sc (.int _ n) => some n
    | _ => none

def maxO (st : AS) (hi mx : Option Operand) (d : Int) : Option Int :=
  match hi, mx with
  | none, some _ => none
  | _, _ => intO st mx d

def lenSV (H : Nat → Blk) : SV → Option Int
  | .view _ xs => some xs.length
  | .nilsl => some 0
  | .row id => match H id with
    | .row _ _ xs => some xs.length
    | _ => none
  | _ => none

def foldMin (mx : Bool) : Int → List AV → IntKind → Option Int
  | a, [], _ => some a
  | a, .sc (.int k' b) :: r, k => bif decide (k = k') then foldMin mx (bif mx then (if b > a then b else a) else (if b < a then b else a)) r k else none
  | _, _, _ => none

def maxBytes : Nat := 140737488355328

def callK (E : Env) (st : AS) (dst : Nat) (f : FuncId) (args : List AV) (caps : List Nat) (K : AV → List (Nat × Blk) → Option R) : Option R :=
  match argsOf st.H args, boxesOf st.H caps with
  | some (xs, ids), some css =>
    bif nodup (ids ++ caps) then
      E f (xs ++ css.map .box) fun res =>
        match importAll st.H dst 0 res.rets, zipBox (ids ++ caps) res.boxes with
        | some (l, us), some bs => match retAV l with
          | some av => K av (bs ++ us)
          | none => none
        | _, _ => none
    else none
  | _, _ => none

/-- The function that pads a block (its row grows in place), and the type of what the block holds: the seat's own numbers. -/
def padFn : FuncId := 106
def padEl : TypeId := 21
def padCount (c n : Int) (len : Nat) : Int := IntKind.wrap .i64 (IntKind.wrap .i64 (n * c) - (len : Int))
def padRow (st : AS) (d : Nat) (id : Nat) (c n : Int) (K : AV → List (Nat × Blk) → Option R) : Option R :=
  match st.H id with
  | .row tid ty xs => bif Nat.beq tid padEl then match castL ty (.int .i32) xs with
    | some xs => bif decide (0 ≤ padCount c n (List.length xs)) && decide ((List.length xs + (padCount c n (List.length xs)).toNat) * 4 ≤ maxBytes) then
        K (.agg [.int .i64 c, .row d]) [(id, .dead), (d, .row padEl (.int .i32) (xs ++ List.replicate (padCount c n (List.length xs)).toNat (0 : Int)))] else none
    | none => none
    else none
  | _ => none
def padK (st : AS) (d : Nat) (args : List AV) (caps : List Nat) (K : AV → List (Nat × Blk) → Option R) : Option R :=
  match args, caps, st.H d with
  | [.agg [.int .i64 c, .row id], .sc (.int .i64 n)], [], .none => padRow st d id c n K
  | _, _, _ => none

/-- The slot at which a made row is not looked at before it is copied into. -/
def rawSlot : Nat := 33
def copyK (st : AS) (te : TI) (id : Nat) (xv : SV) (K : AV → List (Nat × Blk) → Option R) : Option R :=
  match st.H id, viewOf st.H te.ty xv with
  | .raw e ty n, some ys => match castL te.ty ty ys with
    | some ys => bif Nat.beq te.size 1 then K (.sc (.int .i64 ((min (List.length ys) n : Nat) : Int))) [(id, .row e ty (List.take n ys ++ List.replicate (n - List.length ys) ty.dflt))] else none
    | none => none
  | _, _ => none

def ptrIds (st : AS) : List Operand → Option (List Nat)
  | [] => some []
  | x :: r => match evalO st x, ptrIds st r with
    | .sc (.ptr id 0), some l => some (id :: l)
    | _, _ => none

/-- An operation: the value that it leaves, and the boxes and rows that it turns or makes. -/
def opK (TAB : TypeId → Option TI) (EQ : TypeId → Option (List Ty)) (E : Env) (st : AS) (o : Oper) (K : AV → List (Nat × Blk) → Option R) : Option R :=
  match o.op with
  | .move x | .assign x => K (evalO st x) []
  | .pick c a b => match evalO st c with
    | .sc (.bool c) => bif c then K (evalO st a) [] else K (evalO st b) []
    | _ => none
  | .alloc t => match TAB t, o.dst with
    | some ti, some d => match st.H d with
      | .none => K (.sc (.ptr d 0)) [(d, .box ti.zero)]
      | _ => none
    | _, _ => none
  | .box t x => match (evalO st x).cells, o.dst with
    | some cs, some d => match st.H d with
      | .none => K (.sc (.ptr d 0)) [(d, .box cs)]
      | _ => none
    | _, _ => none
  | .build t parts => match TAB t with
    | some ti => match ti.d with
      | .struct fs => bif fs.all (fun p => Nat.blt 0 p.2) then
          match fillCells fs st ti.zero parts.toList with
          | some cs => K (.agg cs) []
          | none => none
        else none
      | _ => none
    | none => none
  | .buildSlice t len parts => match elemOf TAB t, o.dst with
    | some (e, te), some d => match st.H d with
      | .none =>
        bif Nat.ble (len * te.size) 16777216 && Nat.blt 0 te.size then
          match fillCells ((List.range len).map fun i => (i * te.size, te.size)) st ((List.replicate len te.zero).flatten) parts.toList with
          | some cs => match parseN st.H te.ty len cs with
            | some (xs, []) => K (.sc (.row d)) [(d, .row e te.ty xs)]
            | _ => none
          | none => none
        else none
      | _ => none
    | _, _ => none
  | .load t a => match TAB t, evalO st a with
    | some ti, .sc s => match loadCellsA st s ti.size with
      | some cs => match mkAV ti.agg cs with
        | some v => K v []
        | none => none
      | none => none
    | _, _ => none
  | .store t a v => match TAB t, evalO st a, (evalO st v).cells, o.dst with
    | some ti, .sc (.ptr id off), some vs, none => match st.H id with
      | .box cs => bif Nat.beq vs.length ti.size && Nat.ble (off + vs.length) cs.length then K (.sc .undef) [(id, .box (setCells cs off vs))] else none
      | _ => none
    | _, _, _, _ => none
  | .binOp op xt x y _ => binK EQ op xt (evalO st x) (evalO st y) fun v => K v []
  | .unOp op _ x => match op, evalO st x with
    | .not, .sc (.bool b) => K (.sc (.bool (!b))) []
    | .neg, .sc (.int k n) => K (.sc (.int k (k.wrap (0 - n)))) []
    | _, _ => none
  | .convert src dst x => match TAB src, TAB dst, evalO st x with
    | some _, some ti, .sc (.int _ n) => match ti.d with
      | .int k => K (.sc (.int k (k.wrap n))) []
      | _ => none
    | _, _, _ => none
  | .fieldAddr t x f => match TAB t, evalO st x with
    | some ti, .sc a => match ti.d with
      | .struct fs => match fs[f]? with
        | some (off, sz) => bif Nat.blt 0 sz then match a with
          | .ptr id o => K (.sc (.ptr id (o + off))) []
          | .eptr e x o => K (.sc (.eptr e x (o + off))) []
          | _ => none
          else none
        | none => none
      | _ => none
    | _, _ => none
  | .indexAddr t x i => match elemOf TAB t, evalO st x, evalO st i with
    | some (_, te), .sc s, .sc (.int _ n) => indexK st te.ty s n fun v => K v []
    | _, _, _ => none
  | .makeSlice t l c => match elemOf TAB t, o.dst, evalO st l, evalO st c with
    | some (e, te), some d, .sc (.int .i64 n), .sc (.int .i64 m) => match st.H d with
      | .none => bif decide (0 ≤ n) && decide (n ≤ m) && decide (m * te.bytes ≤ maxBytes) && Nat.blt 0 te.size && Nat.blt 0 te.bytes then
          bif Nat.beq d rawSlot then K (.sc (.row d)) [(d, .raw e te.ty n.toNat)] else K (.sc (.row d)) [(d, .row e te.ty (List.replicate n.toNat te.ty.dflt))]
        else none
      | _ => none
    | _, _, _, _ => none
  | .slice t x lo hi mx => match elemOf TAB t, evalO st x with
    | some (_, te), .sc s => match viewOf st.H te.ty s with
      | some xs => match intO st hi xs.length, intO st lo 0 with
        | some h, some l => match maxO st hi mx h with
          | some m => bif decide (0 ≤ l) && decide (l ≤ h) && decide (h ≤ m) && decide (m ≤ xs.length) then
              K (.sc (.view te.ty ((xs.take h.toNat).drop l.toNat))) []
            else none
          | none => none
        | _, _ => none
      | none => none
    | _, _ => none
  | .extract t ix => match evalO st t with
    | .tup l => match l[ix]? with
      | some (b, cs) => match mkAV b cs with
        | some v => K v []
        | none => none
      | none => none
    | _ => none
  | .nilCheck x => match evalO st x with
    | .sc (.ptr id off) => K (.sc (.ptr id off)) []
    | _ => none
  | .makeFunc (.func f) first captured => match first.toList, ptrIds st captured.toList with
    | [], some ids => K (.sc (.clo f ids)) []
    | _, _ => none
  | .call c => match c.callee with
    | .value f => match closeIds (evalO st f), o.dst with
      | some (g, caps), some d => bif Nat.beq g padFn then padK st d (c.args.toList.map (evalO st)) caps K else callK E st d g (c.args.toList.map (evalO st)) caps K
      | _, _ => none
    | .builtin .len => match c.args.toList, c.argTypes.toList with
      | [x], [t] => match TAB t, evalO st x with
        | some ti, .sc s => match ti.d with
          | .slice _ => match lenSV st.H s with
            | some n => K (.sc (.int .i64 n)) []
            | none => none
          | _ => none
        | _, _ => none
      | _, _ => none
    | .builtin .min => match c.args.toList.map (evalO st) with
      | .sc (.int k a) :: r => match foldMin false a r k with
        | some n => K (.sc (.int k n)) []
        | none => none
      | _ => none
    | .builtin .max => match c.args.toList.map (evalO st) with
      | .sc (.int k a) :: r => match foldMin true a r k with
        | some n => K (.sc (.int k n)) []
        | none => none
      | _ => none
    | .builtin .append => match c.args.toList, c.argTypes.toList, o.dst with
      | [s, x], [t, xt], some d => match elemOf TAB t, TAB xt, st.H d with
        | some (e, te), some tx, .none => match tx.d, evalO st s, evalO st x with
          | .int _, .sc sv, .sc (.int .i64 n) =>
            bif decide (0 ≤ n) && decide (n ≤ 9223372036854775807) then appendK st d e te sv (List.replicate n.toNat te.ty.dflt) K else none
          | .slice _, .sc sv, .sc xv => match viewOf st.H te.ty xv with
            | some ys => bif Nat.beq t xt then appendK st d e te sv ys K else none
            | none => none
          | _, _, _ => none
        | _, _, _ => none
      | _, _, _ => none
    | .builtin .copy => match c.args.toList, c.argTypes.toList with
      | [y, x], [t, _] => match elemOf TAB t, evalO st y, evalO st x with
        | some (_, te), .sc (.row id), .sc xv => copyK st te id xv K
        | _, _, _ => none
      | _, _ => none
    | _ => none
  | .field t x f => match TAB t, evalO st x with
    | some ti, .agg cs => match ti.d with
      | .struct fs => match fs[f]? with
        | some (off, sz) => match cs[off]? with
          | some s => bif ti.flat && Nat.beq sz 1 then K (.sc s) [] else none
          | none => none
        | none => none
      | _ => none
    | _, _ => none
  | _ => none
where
  /-- append: the row that is appended to is gone (its number holds nothing more); the new one stands at 'd' -/
  appendK (st : AS) (d : Nat) (e : TypeId) (te : TI) (s : SV) (ys : List te.ty.I) (K : AV → List (Nat × Blk) → Option R) : Option R :=
    bif Nat.blt 0 te.size && Nat.blt 0 te.bytes then
      match s with
      | .nilsl => bif decide (ys.length * te.bytes ≤ maxBytes) && decide (ys.length ≤ 9223372036854775807) then K (.sc (.row d)) [(d, .row e te.ty ys)] else none
      | .row id => match st.H id with
        | .row tid e' xs => bif Nat.beq tid e then match castL e' te.ty xs with
          | some xs => bif decide ((xs.length + ys.length) * te.bytes ≤ maxBytes) && decide (xs.length + ys.length ≤ 9223372036854775807) then
              K (.sc (.row d)) [(id, .dead), (d, .row e te.ty (xs ++ ys))] else none
          | none => none
          else none
        | _ => none
      | _ => none
    else none
end
end Go.Pev
