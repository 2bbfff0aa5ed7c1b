/- The abstract evaluator: regions, whole bodies, loops, calls. Definitions alone. -/
import Derived.Test.YtbfkfobfhjgphaaGreatPevA
set_option linter.unusedVariables false
namespace Go.Pev
open Go

def AS.apply (st : AS) (dst : Option Nat) (v : AV) (us : List (Nat × Blk)) : AS :=
  ⟨match dst with | some d => upd st.T d v | none => st.T, upds st.H us⟩

section
variable {R : Type}
variable (TAB : TypeId → Option TI) (EQ : TypeId → Option (List Ty)) (E : Env)

/-- One operation of a region, its guard first (behind it the guard's slot holds what it was found to be). 'us': what it turned. -/
def stepK (ops : Array Oper) (o : Oper) (st : AS) (K : AS → List Nat → Option R) : Option R :=
  match o.guard with
  | none => opK TAB EQ E st o fun v us => K (st.apply o.dst v us) (us.map (·.1))
  | some (j, want) => match (ops[j]?).bind (·.dst) with
    | some d => match st.T d with
      | .sc (.bool b) =>
        bif want then
          bif b then runK d true st else skipK d false st
        else
          bif b then skipK d true st else runK d false st
      | .tup _ => K (st.apply o.dst (.tup []) []) []
      | _ => none
    | none => none
where
  runK (d : Nat) (b : Bool) (st : AS) : Option R :=
    opK TAB EQ E ⟨upd st.T d (.sc (.bool b)), st.H⟩ o fun v us => K (AS.apply ⟨upd st.T d (.sc (.bool b)), st.H⟩ o.dst v us) (us.map (·.1))
  skipK (d : Nat) (b : Bool) (st : AS) : Option R := K (AS.apply ⟨upd st.T d (.sc (.bool b)), st.H⟩ o.dst (.tup []) []) []

def regK (ops : Array Oper) : List Oper → AS → (AS → Option R) → Option R
  | [], st, K => K st
  | o :: r, st, K => stepK TAB EQ E ops o st fun st' _ => regK ops r st' K

/-! ### A region that draws its order -/

def opTmps (x : Operand) : List Nat := match x with | .tmp t => [t] | _ => []
/-- The slots that an operation reads. -/
def readsOf (ops : Array Oper) (o : Oper) : List Nat :=
  o.op.operands.toList.flatMap opTmps ++ match o.guard with
    | some (j, _) => match (ops[j]?).bind (·.dst) with | some d => [d] | none => []
    | none => []

def mem (x : Nat) : List Nat → Bool
  | [] => false
  | y :: l => bif Nat.beq x y then true else mem x l
def disj : List Nat → List Nat → Bool
  | [], _ => true
  | x :: l, m => bif mem x m then false else disj l m

/-- Behind which operations each one stands, as bits. -/
def ancMask (acc : List Nat) : List Edge → Nat
  | [] => 0
  | e :: r => bif Region.binds .any e then (2 ^ e.on ||| acc.getD e.on 0) ||| ancMask acc r else ancMask acc r
def ancsFrom : List Nat → List Oper → List Nat
  | acc, [] => acc
  | acc, o :: r => ancsFrom (acc ++ [ancMask acc o.after.toList]) r
def ancs (ops : List Oper) : List Nat := ancsFrom [] ops
def isAnc (A : List Nat) (i j : Nat) : Bool := (A.getD i 0).testBit j

/-- The slots of any two operations that may change places are apart. -/
def tmpsPair (ops : Array Oper) (o p : Oper) : Bool :=
  disj o.dst.toList (readsOf ops p ++ p.dst.toList) && disj p.dst.toList (readsOf ops o)
def tmpsRow (A : List Nat) (ops : Array Oper) (i : Nat) (o : Oper) : Nat → List Oper → Bool
  | _, [] => true
  | j, p :: r => (isAnc A j i || tmpsPair ops o p) && tmpsRow A ops i o (j + 1) r
def tmpsFrom (A : List Nat) (ops : Array Oper) : Nat → List Oper → Bool
  | _, [] => true
  | i, o :: r => tmpsRow A ops i o (i + 1) r && tmpsFrom A ops (i + 1) r
def noEdgeOut (n : Nat) (o : Oper) : Bool := o.after.toList.all fun e => !(Region.binds .any e) || Nat.blt e.on n
def edgesFrom : Nat → List Oper → Bool
  | _, [] => true
  | i, o :: r => noEdgeOut i o && edgesFrom (i + 1) r
def regOK (ops : Array Oper) : Bool := tmpsFrom (ancs ops.toList) ops 0 ops.toList && edgesFrom 0 ops.toList

def rowIds : List SV → List Nat
  | [] => []
  | .row id :: r => id :: rowIds r
  | _ :: r => rowIds r
def avRows : AV → List Nat
  | .sc s => rowIds [s]
  | .agg cs => rowIds cs
  | .tup _ => []
def boxRows (H : Nat → Blk) (id : Nat) : List Nat := match H id with | .box cs => rowIds cs | _ => []
def avPtrs : AV → List Nat
  | .sc (.ptr id _) => [id]
  | .sc (.clo _ ids) => ids
  | _ => []
/-- All boxes and rows that an operand leads to. -/
def avReads (H : Nat → Blk) (v : AV) : List Nat := avRows v ++ avPtrs v ++ (avPtrs v).flatMap (boxRows H)

/-- The boxes and rows that an operation reads. -/
def hreads (st : AS) (o : Oper) : List Nat :=
  match o.op with
  | .alloc _ | .box .. | .makeSlice .. => o.dst.toList
  | .buildSlice _ _ ps => o.dst.toList ++ ps.toList.flatMap fun p => avRows (evalO st p.2)
  | .load _ a | .store _ a _ => avPtrs (evalO st a)
  | .indexAddr _ x _ | .slice _ x _ _ _ => avRows (evalO st x)
  | .call c => match c.callee with
    | .value f => (avReads st.H (evalO st f)) ++ c.args.toList.flatMap fun x => avReads st.H (evalO st x)
    | .builtin .append => o.dst.toList ++ c.args.toList.flatMap fun x => avRows (evalO st x)
    | .builtin _ => c.args.toList.flatMap fun x => avRows (evalO st x)
    | _ => []
  | _ => []

structure Foot where
  i : Nat
  hr : List Nat
  hw : List Nat

def footPair (A : List Nat) (f g : Foot) : Bool := isAnc A g.i f.i || (disj f.hw (g.hr ++ g.hw) && disj g.hw f.hr)
def footRow (A : List Nat) (f : Foot) : List Foot → Bool
  | [] => true
  | g :: r => footPair A f g && footRow A f r
def footOK (A : List Nat) : List Foot → Bool
  | [] => true
  | f :: r => footRow A f r && footOK A r

def regDK (ops : Array Oper) : Nat → List Oper → List Foot → AS → (AS → Option R) → Option R
  | _, [], tr, st, K => bif footOK (ancs ops.toList) tr.reverse then K st else none
  | i, o :: r, tr, st, K => stepK TAB EQ E ops o st fun st' us =>
      regDK ops (i + 1) r (⟨i, hreads st o ++ us, us⟩ :: tr) st' K

inductive AExit where
  | normal
  | exit (id : Nat)
  | ret

/-! ### Masks: what a loop's head knows -/
/-- What becomes of a cell: it is kept (a reference only to what is kept); a row of its own under the number 'c'; a view. -/
inductive CM where
  | keep
  | own (c : Nat) (tid : TypeId) (e : Ty)
  | view (e : Ty)

structure Mask where
  ts : List (Nat × List CM)
  hs : List (Nat × List CM)
  rows : List Nat

def cmIds : List CM → List Nat
  | [] => []
  | .own c _ _ :: r => c :: cmIds r
  | _ :: r => cmIds r
def Mask.kept (m : Mask) : List Nat := m.hs.map (·.1) ++ m.rows
def Mask.owns (m : Mask) : List Nat := (m.ts.map fun p => cmIds p.2).flatten ++ (m.hs.map fun p => cmIds p.2).flatten
def Mask.ids (m : Mask) : List Nat := m.kept ++ m.owns

def killSV (ids : List Nat) : SV → SV
  | .row id => bif mem id ids then .row id else .undef
  | .ptr id off => bif mem id ids then .ptr id off else .undef
  | .clo f js => bif js.all (fun j => mem j ids) then .clo f js else .undef
  | s => s

/-- The cell, the rows that it takes along: under which number, where each comes from, and what it holds. -/
abbrev Ent := Nat × Option Nat × Blk
def convSV (H : Nat → Blk) (kept : List Nat) : CM → SV → Option (SV × List Ent)
  | .keep, s => some (killSV kept s, [])
  | .view e, s => match viewOf H e s with
    | some xs => some (.view e xs, [])
    | none => none
  | .own c tid e, .row id => match H id with
    | .row tid' e' xs => bif Nat.beq tid' tid then match castL e' e xs with
      | some xs => some (.row c, [(c, some id, .row tid e xs)])
      | none => none
      else none
    | _ => none
  | .own c tid e, .nilsl => some (.row c, [(c, none, .row tid e [])])
  | .own _ _ _, _ => none
def convCells (H : Nat → Blk) (kept : List Nat) : List CM → List SV → Option (List SV × List Ent)
  | [], [] => some ([], [])
  | [], s :: r => match convCells H kept [] r with
    | some (r', us) => some (killSV kept s :: r', us)
    | none => none
  | m :: ms, s :: r => match convSV H kept m s, convCells H kept ms r with
    | some (s', us), some (r', us') => some (s' :: r', us ++ us')
    | _, _ => none
  | _ :: _, [] => none
def convAV (H : Nat → Blk) (kept : List Nat) (ms : List CM) : AV → Option (AV × List Ent)
  | .sc s => match convCells H kept ms [s] with
    | some ([s'], us) => some (.sc s', us)
    | _ => none
  | .agg cs => match convCells H kept ms cs with
    | some (cs', us) => some (.agg cs', us)
    | none => none
  | .tup _ => match ms with
    | [] => some (.sc .undef, [])
    | _ => none
def convBlk (H : Nat → Blk) (kept : List Nat) (ms : List CM) : Blk → Option (Blk × List Ent)
  | .box cs => match convCells H kept ms cs with
    | some (cs', us) => some (.box cs', us)
    | none => none
  | .none => match ms with
    | [] => some (.none, [])
    | _ => none
  | _ => none

def takeT (st : AS) (kept : List Nat) : List (Nat × List CM) → Option (List AV × List Ent)
  | [] => some ([], [])
  | (t, ms) :: r => match convAV st.H kept ms (st.T t), takeT st kept r with
    | some (v, us), some (vs, us') => some (v :: vs, us ++ us')
    | _, _ => none
def takeH (st : AS) (kept : List Nat) : List (Nat × List CM) → Option (List Blk × List Ent)
  | [] => some ([], [])
  | (h, ms) :: r => match convBlk st.H kept ms (st.H h), takeH st kept r with
    | some (v, us), some (vs, us') => some (v :: vs, us ++ us')
    | _, _ => none
def sources : List Ent → List Nat
  | [] => []
  | (_, some id, _) :: r => id :: sources r
  | (_, none, _) :: r => sources r
def eqNats : List Nat → List Nat → Bool
  | [], [] => true
  | x :: l, y :: m => bif Nat.beq x y then eqNats l m else false
  | _, _ => false

def tabT : List (Nat × List CM) → List AV → Nat → AV
  | (t, _) :: ts, v :: vs, n => bif Nat.beq n t then v else tabT ts vs n
  | _, _, _ => .sc .undef
def tabH : List Nat → List Blk → Nat → Blk
  | t :: ts, v :: vs, n => bif Nat.beq n t then v else tabH ts vs n
  | _, _, _ => .none
abbrev LS := List AV × List Blk
def Mask.state (m : Mask) (l : LS) : AS := ⟨tabT m.ts l.1, tabH m.ids l.2⟩
def isRow : Blk → Bool
  | .row _ _ _ => true
  | _ => false
def Mask.take (m : Mask) (st : AS) : Option LS :=
  match takeT st m.kept m.ts, takeH st m.kept m.hs with
  | some (vs, us), some (bs, us') =>
    bif nodup m.ids && nodup (sources (us ++ us')) && disj (sources (us ++ us')) m.kept && eqNats ((us ++ us').map (·.1)) m.owns && m.rows.all (fun i => isRow (st.H i)) && m.owns.all (Nat.ble 100000) then
      some (vs, bs ++ (m.rows.map st.H ++ (us ++ us').map (·.2.2)))
    else none
  | _, _ => none

def loopC {S : Type} : Nat → (S → (S → Option R) → Option R) → S → Option R
  | 0, _, _ => none
  | n + 1, f, s => f s (loopC n f)

theorem loopC_enc {S X : Type} (enc : X → S) (f : S → (S → Option R) → Option R) (g : X → (X → Option R) → Option R)
    (h : ∀ x next, f (enc x) next = g x fun y => next (enc y)) : ∀ n x, loopC n f (enc x) = loopC n g x
  | 0, _ => rfl
  | n + 1, x => by
    show f (enc x) (loopC n f) = g x (loopC n g)
    rw [h]
    congr 1
    funext y
    exact loopC_enc enc f g h n y

/-- A region's number that tells a loop from the others. -/
def firstReg : Code → Option Nat
  | .region id _ _ => some id
  | .seq a b => match firstReg a with | some x => some x | none => firstReg b
  | .cond _ a b => match firstReg a with | some x => some x | none => firstReg b
  | .block _ c => firstReg c
  | .loop c => firstReg c
  | _ => none
def loopKey (c : Code) : Nat := match firstReg c with | some n => n | none => 0

variable (LP : Nat → LS → (AExit → AS → Option R) → Option R) (MH : Nat → Mask) (MX : Nat → AExit → Mask)

def pevK : Code → AS → (AExit → AS → Option R) → Option R
  | .skip, st, K => K .normal st
  | .region _ ops false, st, K => regK TAB EQ E ops ops.toList st (K .normal)
  | .region _ ops true, st, K => bif regOK ops then regDK TAB EQ E ops 0 ops.toList [] st (K .normal) else none
  | .seq a b, st, K => pevK a st fun e st' => match e with
    | .normal => pevK b st' K
    | e => K e st'
  | .cond c a b, st, K => match evalO st c with
    | .sc (.bool x) => bif x then pevK a st K else pevK b st K
    | _ => none
  | .block id c, st, K => pevK c st fun e st' => match e with
    | .exit j => bif Nat.beq j id then K .normal st' else K (.exit j) st'
    | e => K e st'
  | .loop c, st, K => match (MH (loopKey c)).take st with
    | some l => LP (loopKey c) l K
    | none => none
  | .exit id, st, K => K (.exit id) st
  | .ret, st, K => K .ret st
  | _, _, _ => none

/-- A loop's round: where it goes on, the head's mask; where it leaves, the exit's. -/
def roundK (c : Code) (K : AExit → AS → Option R) (l : LS) (next : LS → Option R) : Option R :=
  pevK TAB EQ E LP MH c ((MH (loopKey c)).state l) fun e st' => match e with
    | .normal => match (MH (loopKey c)).take st' with
      | some l' => next l'
      | none => none
    | e => match (MX (loopKey c) e).take st' with
      | some l' => K e ((MX (loopKey c) e).state l')
      | none => none

/-- What is asked of 'LP', loop by loop. -/
def LoopsOK (fuel : Nat) : Code → Prop
  | .seq a b => LoopsOK fuel a ∧ LoopsOK fuel b
  | .cond _ a b => LoopsOK fuel a ∧ LoopsOK fuel b
  | .block _ c => LoopsOK fuel c
  | .loop c => LoopsOK fuel c ∧ ∀ l K r, LP (loopKey c) l K = some r → loopC fuel (roundK TAB EQ E LP MH MX c K) l = some r
  | _ => True

def loopBodies : Code → List Code
  | .seq a b => loopBodies a ++ loopBodies b
  | .cond _ a b => loopBodies a ++ loopBodies b
  | .block _ c => loopBodies c
  | .loop c => c :: loopBodies c
  | _ => []
end

/-! ### Loops, by what their heads hold -/
inductive CD where
  | fix (s : SV)
  | leaf (t : Ty)
inductive BD where
  | no
  | box (cs : List CD)
  | row (tid : TypeId) (e : Ty)
@[reducible] def CD.I : CD → Type
  | .fix _ => Unit
  | .leaf t => t.I
@[reducible] def cdsI : List CD → Type
  | [] => Unit
  | d :: l => d.I × cdsI l
@[reducible] def BD.I : BD → Type
  | .no => Unit
  | .box cs => cdsI cs
  | .row _ e => List e.I
@[reducible] def bdsI : List BD → Type
  | [] => Unit
  | d :: l => d.I × bdsI l
@[reducible] def tdsI : List (Bool × List CD) → Type
  | [] => Unit
  | d :: l => cdsI d.2 × tdsI l
structure LD where
  ts : List (Bool × List CD)
  bs : List BD
@[reducible] def LD.I (D : LD) : Type := tdsI D.ts × bdsI D.bs

def eqFix : SV → SV → Bool
  | .undef, .undef => true
  | .nilsl, .nilsl => true
  | .nilp, .nilp => true
  | .row a, .row b => Nat.beq a b
  | .ptr a i, .ptr b j => Nat.beq a b && Nat.beq i j
  | .clo f l, .clo g m => Nat.beq f g && eqNats l m
  | _, _ => false

def CD.dec : (d : CD) → SV → Option d.I
  | .fix s, v => bif eqFix s v then some () else none
  | .leaf (.int k), .int k' n => bif decide (k' = k) then some n else none
  | .leaf .bool, .bool b => some b
  | .leaf .str, .str s => some s
  | .leaf (.sl e), .view e' xs => castL e' e xs
  | _, _ => none
def CD.enc : (d : CD) → d.I → SV
  | .fix s, _ => s
  | .leaf (.int k), n => .int k n
  | .leaf .bool, b => .bool b
  | .leaf .str, s => .str s
  | .leaf (.sl e), xs => .view e xs
  | .leaf (.pair _ _), _ => .undef
def cdsDec : (l : List CD) → List SV → Option (cdsI l)
  | [], [] => some ()
  | d :: l, s :: r => match d.dec s, cdsDec l r with
    | some x, some y => some (x, y)
    | _, _ => none
  | _, _ => none
def cdsEnc : (l : List CD) → cdsI l → List SV
  | [], _ => []
  | d :: l, x => d.enc x.1 :: cdsEnc l x.2
def BD.dec : (d : BD) → Blk → Option d.I
  | .no, .none => some ()
  | .box ds, .box cs => cdsDec ds cs
  | .row tid e, .row tid' e' xs => bif Nat.beq tid' tid then castL e' e xs else none
  | _, _ => none
def BD.enc : (d : BD) → d.I → Blk
  | .no, _ => .none
  | .box ds, x => .box (cdsEnc ds x)
  | .row tid e, xs => .row tid e xs
def bdsDec : (l : List BD) → List Blk → Option (bdsI l)
  | [], [] => some ()
  | d :: l, s :: r => match d.dec s, bdsDec l r with
    | some x, some y => some (x, y)
    | _, _ => none
  | _, _ => none
def bdsEnc : (l : List BD) → bdsI l → List Blk
  | [], _ => []
  | d :: l, x => d.enc x.1 :: bdsEnc l x.2
def tdsDec : (l : List (Bool × List CD)) → List AV → Option (tdsI l)
  | [], [] => some ()
  | (false, [d]) :: l, .sc s :: r => match d.dec s, tdsDec l r with
    | some x, some y => some ((x, ()), y)
    | _, _ => none
  | (true, ds) :: l, .agg cs :: r => match cdsDec ds cs, tdsDec l r with
    | some x, some y => some (x, y)
    | _, _ => none
  | _, _ => none
def tdEnc : (p : Bool × List CD) → cdsI p.2 → AV
  | (false, [d]), x => .sc (d.enc x.1)
  | (true, ds), x => .agg (cdsEnc ds x)
  | (false, _), _ => .sc .undef
def tdsEnc : (l : List (Bool × List CD)) → tdsI l → List AV
  | [], _ => []
  | p :: l, x => tdEnc p x.1 :: tdsEnc l x.2
def LD.dec (D : LD) (l : LS) : Option D.I := match tdsDec D.ts l.1, bdsDec D.bs l.2 with
  | some x, some y => some (x, y)
  | _, _ => none
def LD.enc (D : LD) (x : D.I) : LS := (tdsEnc D.ts x.1, bdsEnc D.bs x.2)

structure LSpec (R : Type) where
  D : LD
  run : (AExit → AS → Option R) → D.I → Option R

def lpOf {R : Type} : List (Nat × LSpec R) → Nat → LS → (AExit → AS → Option R) → Option R
  | [], _, _, _ => none
  | (k, s) :: m, key, l, K => bif Nat.beq key k then match s.D.dec l with
    | some x => s.run K x
    | none => none
    else lpOf m key l K

/-! ### What a function takes and gives -/
inductive AT where
  | val (agg : Bool) (t : Ty)
  | box (t : Ty)
  | clo (f : FuncId) (ts : List Ty)
  | unit

inductive RT where
  | ty (t : Ty)
  | own (tid : TypeId) (e : Ty)
  | nbox (t : Ty)

/-- products, the last one bare -/
@[reducible] def prodI : List Type → Type
  | [] => Unit
  | [a] => a
  | a :: b :: l => a × prodI (b :: l)

@[reducible] def AT.I : AT → Type
  | .val _ t => t.I
  | .box t => t.I
  | .clo _ ts => prodI (ts.map Ty.I)
  | .unit => Unit
@[reducible] def RT.I : RT → Type
  | .ty t => t.I
  | .own _ e => List e.I
  | .nbox t => t.I
@[reducible] def argsI (l : List AT) : Type := prodI (l.map AT.I)
@[reducible] def cellsI (l : List RT) : Type := prodI (l.map RT.I)
structure Sig where
  args : List AT
  rets : List (Bool × List RT)
  boxes : List Ty
@[reducible] def Sig.R (s : Sig) : Type := prodI (s.rets.map (fun p => cellsI p.2) ++ s.boxes.map Ty.I)

structure FSpec where
  sig : Sig
  f : argsI sig.args → Option sig.R

def noH : Nat → Blk := fun _ => .none

def decTys : (ts : List Ty) → List (List SV) → Option (prodI (ts.map Ty.I))
  | [], [] => some ()
  | [t], [cs] => parseAll noH t cs
  | t :: u :: ts, cs :: css => match parseAll noH t cs, decTys (u :: ts) css with
    | some x, some y => some (x, y)
    | _, _ => none
  | _, _ => none

def decArg : (a : AT) → XA → Option a.I
  | .val g t, .val g' cs => bif decide (g = g') then parseAll noH t cs else none
  | .box t, .box cs => parseAll noH t cs
  | .clo f ts, .clo f' css => bif Nat.beq f f' then decTys ts css else none
  | .unit, .val false [.nilsl] => some ()
  | _, _ => none

def decArgs : (l : List AT) → List XA → Option (argsI l)
  | [], [] => some ()
  | [a], [x] => decArg a x
  | a :: b :: l, x :: xs => match decArg a x, decArgs (b :: l) xs with
    | some v, some vs => some (v, vs)
    | _, _ => none
  | _, _ => none

def encRT : (t : RT) → t.I → List RC
  | .ty t, x => (cellsOf t x).map .s
  | .own tid e, xs => [.own tid e xs]
  | .nbox t, x => [.nbox (cellsOf t x)]
def encCells : (l : List RT) → cellsI l → List RC
  | [], _ => []
  | [t], x => encRT t x
  | t :: u :: l, x => encRT t x.1 ++ encCells (u :: l) x.2
def encTys : (ts : List Ty) → prodI (ts.map Ty.I) → List (List SV)
  | [], _ => []
  | [t], x => [cellsOf t x]
  | t :: u :: ts, x => cellsOf t x.1 :: encTys (u :: ts) x.2
def encRes : (rs : List (Bool × List RT)) → (bs : List Ty) → prodI (rs.map (fun p => cellsI p.2) ++ bs.map Ty.I) → Res
  | [], bs, x => ⟨[], encTys bs x⟩
  | [(g, l)], [], x => ⟨[(g, encCells l x)], []⟩
  | [(g, l)], b :: bs, x => ⟨[(g, encCells l x.1)], encTys (b :: bs) x.2⟩
  | (g, l) :: r :: rs, bs, x => match encRes (r :: rs) bs x.2 with
    | ⟨a, b⟩ => ⟨(g, encCells l x.1) :: a, b⟩

/-- The callee in its callers. -/
def FSpec.E (s : FSpec) (xs : List XA) {R : Type} (K : Res → Option R) : Option R :=
  match decArgs s.sig.args xs with
  | some a => (s.f a).bind fun r => K (encRes s.sig.rets s.sig.boxes r)
  | none => none

def envOf : List (Nat × FSpec) → Env
  | [], _, _, _, _ => none
  | (f, s) :: l, g, xs, R, K => bif Nat.beq g f then s.E xs K else envOf l g xs K

/-! ### A function's body -/

/-- The frame and the boxes at the start: argument i at slot i; its box under 90000 + 100 * i. -/
def argId (i j : Nat) : Nat := 90000 + 100 * i + j
def encClo (i : Nat) : Nat → List (List SV) → List Nat × List (Nat × Blk)
  | _, [] => ([], [])
  | j, cs :: css => match encClo i (j + 1) css with
    | (l, us) => (argId i j :: l, (argId i j, .box cs) :: us)
def encArg (i : Nat) : (a : AT) → a.I → AV × List (Nat × Blk)
  | .val true t, x => (.agg (cellsOf t x), [])
  | .val false t, x => (match cellsOf t x with | [s] => .sc s | _ => .sc .undef, [])
  | .box t, x => (.sc (.ptr (argId i 0) 0), [(argId i 0, .box (cellsOf t x))])
  | .clo f ts, x => match encClo i 0 (encTys ts x) with
    | (ids, us) => (.sc (.clo f ids), us)
  | .unit, _ => (.sc .undef, [])
def encArgs : Nat → (l : List AT) → argsI l → List AV × List (Nat × Blk)
  | _, [], _ => ([], [])
  | i, [a], x => match encArg i a x with | (v, us) => ([v], us)
  | i, a :: b :: l, x => match encArg i a x.1, encArgs (i + 1) (b :: l) x.2 with
    | (v, us), (vs, us') => (v :: vs, us ++ us')
def listT : Nat → List AV → Nat → AV
  | _, [], _ => .sc .undef
  | i, v :: vs, n => bif Nat.beq n i then v else listT (i + 1) vs n
def startAS (l : List AT) (x : argsI l) : AS := match encArgs 0 l x with
  | (vs, us) => ⟨listT 0 vs, upds noH us⟩

/-- The results' cells. -/
def resCells (TAB : TypeId → Option TI) (st : AS) : List ResultVar → Option (List (Bool × List SV))
  | [] => some []
  | .tmp t :: r => match st.T t, resCells TAB st r with
    | .sc .undef, _ => none
    | .sc s, some l => some ((false, [s]) :: l)
    | .agg cs, some l => some ((true, cs) :: l)
    | _, _ => none
  | .cell a t :: r => match TAB t, st.T a with
    | some ti, .sc s => match loadCellsA st s ti.size, resCells TAB st r with
      | some cs, some l => match mkAV ti.agg cs with
        | some _ => some ((ti.agg, cs) :: l)
        | none => none
      | _, _ => none
    | _, _ => none

/-- A result read as it was announced; 'used': the rows and boxes that have been given away. -/
def decRT (H : Nat → Blk) (used : List Nat) : (t : RT) → List SV → Option (t.I × List SV × List Nat)
  | .ty t, cs => match parse H t cs with
    | some (x, r) => some (x, r, used)
    | none => none
  | .own tid e, .row id :: r => match H id with
    | .row tid' e' xs => bif Nat.beq tid tid' && !(mem id used) then match castL e' e xs with
      | some xs => some (xs, r, id :: used)
      | none => none
      else none
    | _ => none
  | .own _ _, .nilsl :: r => some ([], r, used)
  | .nbox t, .ptr id 0 :: r => match H id with
    | .box cs => bif !(mem id used) && !(Nat.ble 90000 id && Nat.blt id 100000) then match parseAll H t cs with
      | some x => some (x, r, id :: used)
      | none => none
      else none
    | _ => none
  | _, _ => none
def decCells (H : Nat → Blk) : List Nat → (l : List RT) → List SV → Option (cellsI l × List Nat)
  | used, [], [] => some ((), used)
  | used, [t], cs => match decRT H used t cs with
    | some (x, [], u) => some (x, u)
    | _ => none
  | used, t :: v :: l, cs => match decRT H used t cs with
    | some (x, cs', u) => match decCells H u (v :: l) cs' with
      | some (y, u') => some ((x, y), u')
      | none => none
    | none => none
  | _, _, _ => none
/-- the boxes that came in, by their numbers -/
def boxIdsFrom : Nat → List AT → List Nat
  | _, [] => []
  | i, .box _ :: l => argId i 0 :: boxIdsFrom (i + 1) l
  | i, .clo _ ts :: l => (List.range ts.length).map (argId i) ++ boxIdsFrom (i + 1) l
  | i, _ :: l => boxIdsFrom (i + 1) l
def decBoxes (H : Nat → Blk) : (ts : List Ty) → List Nat → Option (prodI (ts.map Ty.I))
  | [], [] => some ()
  | [t], [id] => match H id with
    | .box cs => parseAll H t cs
    | _ => none
  | t :: u :: ts, id :: ids => match H id with
    | .box cs => match parseAll H t cs, decBoxes H (u :: ts) ids with
      | some x, some y => some (x, y)
      | _, _ => none
    | _ => none
  | _, _ => none
def decRes (H : Nat → Blk) (ids : List Nat) : List Nat → (rs : List (Bool × List RT)) → (bs : List Ty) → List (Bool × List SV) → Option (prodI (rs.map (fun p => cellsI p.2) ++ bs.map Ty.I))
  | _, [], bs, [] => decBoxes H bs ids
  | used, [(g, l)], [], [(g', cs)] => bif decide (g = g') then match decCells H used l cs with
    | some (x, _) => some x
    | none => none
    else none
  | used, [(g, l)], b :: bs, [(g', cs)] => bif decide (g = g') then match decCells H used l cs, decBoxes H (b :: bs) ids with
    | some (x, _), some y => some (x, y)
    | _, _ => none
    else none
  | used, (g, l) :: r :: rs, bs, (g', cs) :: ccs => bif decide (g = g') then match decCells H used l cs with
    | some (x, u) => match decRes H ids u (r :: rs) bs ccs with
      | some y => some (x, y)
      | none => none
    | none => none
    else none
  | _, _, _, _ => none

def finish (TAB : TypeId → Option TI) (fn : Func) (sig : Sig) (e : AExit) (st : AS) : Option sig.R :=
  match e with
  | .exit _ => none
  | _ => match resCells TAB st fn.results.toList with
    | some ccs => decRes st.H (boxIdsFrom 0 sig.args) [] sig.rets sig.boxes ccs
    | none => none

def pevFn (TAB : TypeId → Option TI) (EQ : TypeId → Option (List Ty)) (E : Env) (sig : Sig) (LP : Nat → LS → (AExit → AS → Option sig.R) → Option sig.R) (MH : Nat → Mask) (fn : Func) (x : argsI sig.args) : Option sig.R :=
  match fn.body with
  | some c => pevK TAB EQ E LP MH c (startAS sig.args x) (finish TAB fn sig)
  | none => none
end Go.Pev
