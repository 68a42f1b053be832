/-
  From a loaded program's code to the small machine's code: what is turned, and how ('none': it isn't).
-/
import Derived.Test.YtffpkcmcoppbmaaGreatDoorKMach
import GoSem.Core.Layout
import GoSem.Core.Program
import GoSem.Op.Equal
import GoSem.Core.Region
namespace Go.KM

def bytesOf (s : ByteArray) : List Nat := s.data.toList.map UInt8.toNat
def ofCell : Value → Option AV
  | .bool b => some (.bool b)
  | .int k n => some (.int k n)
  | .string s => some (.str (bytesOf s))
  | .pointer none => some .nilp
  | .slice none 0 0 => some .nils
  | .map none => some .nilm
  | .nilFunc => some .nilf
  | .nilIface => some .nili
  | _ => none
def ofCells : List Value → Option (List AV)
  | [] => some []
  | v :: l => match ofCell v, ofCells l with
    | some a, some b => some (a :: b)
    | _, _ => none
def ofConst : Value → Option AV
  | .agg cs => (ofCells cs.toList).map .agg
  | .tuple vs => if vs.size = 0 then some (.tup []) else none
  | v => ofCell v
def kx : Operand → Option KX
  | .tmp t => some (.t t)
  | .const v => (ofConst v).map .c
  | .global g => some (.g g)
  | .func f => some (.c (.func f [] []))
def kxs : List Operand → Option (List KX)
  | [] => some []
  | x :: l => match kx x, kxs l with
    | some a, some b => some (a :: b)
    | _, _ => none
def kxo : Option Operand → Option (Option KX)
  | none => some none
  | some x => (kx x).map some

variable (P : Program)
def zeroOf (t : TypeId) : Option AV := match P.info? t with
  | some i => match i.zero with
    | some v => ofConst v
    | none => none
  | none => none
def sizeC (t : TypeId) : Option Nat := (P.info? t).map (·.size)
def bytesC (t : TypeId) : Option Nat := (P.info? t).map (·.bytes)
def aggC (t : TypeId) : Option Bool := match P.underlying t with
  | some (.struct _) => some true
  | some (.array _ _) => some true
  | some _ => some false
  | none => none
def plainFields : List Field → Nat → Option (List Nat)
  | [], _ => some []
  | f :: l, i => if f.name != "_" && f.offset == i then
      match P.underlying f.type, plainFields l (i + 1) with
      | some (.int _), some r => some (6 :: r)
      | some .bool, some r => some (0 :: r)
      | some .string, some r => some (7 :: r)
      | _, _ => none
    else none
/-- A struct whose parts are all numbers, bools and texts, so that two of them may be held against each other cell by cell: their kinds. -/
def plainEq (t : TypeId) : Option (List Nat) := match P.underlying t with
  | some (.struct fs) => if !P.stoodInHeld t && !P.eqGuardType P.depth t then plainFields P fs.toList 0 else none
  | _ => none
def kparts (place : Nat → Option (Nat × Nat)) : List (Nat × Operand) → Option (List (Nat × Nat × KX))
  | [] => some []
  | (i, x) :: l => match place i, kx x, kparts place l with
    | some (o, s), some a, some r => some ((o, s, a) :: r)
    | _, _, _ => none
def structPlaces : List Field → Option (List (Nat × Nat))
  | [] => some []
  | f :: l => match sizeC P f.type, structPlaces l with
    | some s, some r => some ((f.offset, s) :: r)
    | _, _ => none
def bin2 (f : KX → KX → KOp) (x y : Operand) : Option KOp := match kx x, kx y with
  | some a, some b => some (f a b)
  | _, _ => none
def un1 (f : KX → KOp) (x : Operand) : Option KOp := (kx x).map f
def isNilC : Operand → Bool
  | .const .nilIface => true
  | _ => false
def keyOk (t : TypeId) : Option Nat := match P.underlying t with
  | some (.int _) => some 6
  | some .string => some 7
  | _ => none
def hasBody (f : Nat) : Bool := match P.funcs[f]? with
  | some fn => fn.body.isSome && fn.name != "runtime.NumGoroutine"
  | none => false

def kbuiltin (b : Builtin) (ts : List TypeId) (args : List Operand) : Option KOp :=
  match b, ts, args with
  | .len, [t], [x] => match P.underlying t with
    | some .string => un1 (.len 7) x
    | some (.slice _) => un1 (.len 2) x
    | some (.map _ _) => un1 (.len 3) x
    | some (.array n _) => some (.mov (.c (.int .i64 n)))
    | _ => none
  | .min, _, [x, y] => bin2 .min x y
  | .max, _, [x, y] => bin2 .max x y
  | .append, [t, u], [x, y] => match P.underlying t, P.underlying u with
    | some (.slice e), some (.slice _) => match sizeC P e, bytesC P e, zeroOf P e with
      | some s, some b, some z => if z.cells.length != s then none else bin2 (.apnd s b) x y
      | _, _, _ => none
    | some (.slice e), some .string => match sizeC P e, bytesC P e, zeroOf P e with
      | some s, some b, some z => if z.cells.length != s then none else bin2 (.apnd s b) x y
      | _, _, _ => none
    | some (.slice e), some (.int _) => match sizeC P e, bytesC P e, zeroOf P e with
      | some s, some b, some z => if z.cells.length != s then none else bin2 (.apndz s b z.cells) x y
      | _, _, _ => none
    | _, _ => none
  | .copy, [t, _], [x, y] => match P.underlying t with
    | some (.slice e) => match sizeC P e with
      | some s => bin2 (.copy s) x y
      | none => none
    | _ => none
  | .delete, [t, _], [x, y] => match P.underlying t with
    | some (.map k _) => match keyOk P k with
      | some kk => bin2 (.mdel kk) x y
      | none => none
    | _ => none
  | _, _, _ => none

def kop (o : Op) : Option KOp :=
  match o with
  | .move x => un1 .mov x
  | .assign x => un1 .mov x
  | .pick c a b => match kx c, kx a, kx b with
    | some c, some a, some b => some (.pick c a b)
    | _, _, _ => none
  | .alloc t => (zeroOf P t).map fun z => .alloc z.cells
  | .box _ x => un1 .box x
  | .build t ps => match P.underlying t, zeroOf P t with
    | some (.struct fs), some z => match structPlaces P fs.toList with
      | some pl => (kparts (fun i => pl[i]?) ps.toList).map (.build z.cells)
      | none => none
    | some (.array _ e), some z => match sizeC P e with
      | some s => (kparts (fun i => some (i * s, s)) ps.toList).map (.build z.cells)
      | none => none
    | _, _ => none
  | .buildSlice t len ps => match P.underlying t with
    | some (.slice e) => match sizeC P e, zeroOf P e with
      | some s, some z => if len * s > 2 ^ 24 || z.cells.length != s then none else
        (kparts (fun i => some (i * s, s)) ps.toList).map (.bslice s ((List.replicate len z.cells).flatten) len)
      | _, _ => none
    | _ => none
  | .load t x => match aggC P t, sizeC P t with
    | some true, some n => un1 (.loadn n) x
    | some false, _ => un1 .load1 x
    | _, _ => none
  | .store t x y => match sizeC P t with
    | some n => bin2 (.store n) x y
    | none => none
  | .nilCheck x => un1 .nilchk x
  | .binOp op t x y _ => match op with
    | .eql => match P.underlying t with
      | some (.int _) => bin2 (.bin .eql) x y
      | some .string => bin2 (.bin .eql) x y
      | some .bool => bin2 (.eql false 0) x y
      | some (.pointer _) => bin2 (.eql false 1) x y
      | some (.slice _) => bin2 (.eql false 2) x y
      | some (.map _ _) => bin2 (.eql false 3) x y
      | some (.func _ _ _) => bin2 (.eql false 4) x y
      | some (.interface _) => if isNilC x || isNilC y then bin2 (.eql false 5) x y else none
      | some (.struct _) => match plainEq P t with
        | some n => bin2 (.eqs false n) x y
        | none => none
      | _ => none
    | .neq => match P.underlying t with
      | some (.int _) => bin2 (.bin .neq) x y
      | some .string => bin2 (.bin .neq) x y
      | some .bool => bin2 (.eql true 0) x y
      | some (.pointer _) => bin2 (.eql true 1) x y
      | some (.slice _) => bin2 (.eql true 2) x y
      | some (.map _ _) => bin2 (.eql true 3) x y
      | some (.func _ _ _) => bin2 (.eql true 4) x y
      | some (.interface _) => if isNilC x || isNilC y then bin2 (.eql true 5) x y else none
      | some (.struct _) => match plainEq P t with
        | some n => bin2 (.eqs true n) x y
        | none => none
      | _ => none
    | op => bin2 (.bin op) x y
  | .unOp op _ x => un1 (.un op) x
  | .convert s d x => match P.underlying s, P.underlying d with
    | some (.int _), some (.int k) => un1 (.conv k) x
    | some .string, some .string => un1 .convStr x
    | some .string, some (.slice e) => if (P.underlying e matches some (.int .u8)) then un1 .convBytes x else none
    | some (.slice e), some .string => if (P.underlying e matches some (.int .u8)) then un1 .convBs x else none
    | _, _ => none
  | .makeInterface t x => match P.underlying t with
    | some (.interface _) => none
    | some _ => un1 (.mkif t) x
    | none => none
  | .makeFunc (.func f) a c => match kxs a.toList, kxs c.toList with
    | some a, some c => some (.mkfn f a c)
    | _, _ => none
  | .makeMap _ none => some .mkmap
  | .makeSlice t l c => match P.underlying t with
    | some (.slice e) => match sizeC P e, bytesC P e, zeroOf P e with
      | some s, some b, some z => if z.cells.length != s then none else bin2 (.mkslice s b z.cells) l c
      | _, _, _ => none
    | _ => none
  | .slice t x lo hi mx => match kx x, kxo lo, kxo hi, kxo mx with
    | some x, some lo, some hi, some mx => if mx.isSome && hi.isNone then none else match P.underlying t with
      | some .string => if mx.isSome then none else some (.slcs x lo hi)
      | some (.slice e) => (sizeC P e).map fun s => .slc s x lo hi mx
      | some (.array n e) => (sizeC P e).map fun s => .slca n s x lo hi mx
      | some (.pointer a) => match P.underlying a with
        | some (.array n e) => (sizeC P e).map fun s => .slca n s x lo hi mx
        | _ => none
      | _ => none
    | _, _, _, _ => none
  | .fieldAddr t x i => match P.underlying t with
    | some (.struct fs) => match fs[i]? with
      | some f => match sizeC P f.type with
        | some 0 => none
        | some _ => un1 (.fadr f.offset) x
        | none => none
      | none => none
    | _ => none
  | .field t x i => match P.underlying t with
    | some (.struct fs) => match fs[i]? with
      | some f => match aggC P f.type, sizeC P f.type with
        | some true, some n => un1 (.fldn f.offset n) x
        | some false, _ => un1 (.fld1 f.offset) x
        | _, _ => none
      | none => none
    | _ => none
  | .indexAddr t x i => match P.underlying t with
    | some (.slice e) => match sizeC P e with
      | some s => bin2 (.idxa s) x i
      | none => none
    | some (.array n e) => match sizeC P e with
      | some s => bin2 (.idxaa n s) x i
      | none => none
    | _ => none
  | .index t x i => match P.underlying t with
    | some .string => bin2 .idxs x i
    | _ => none
  | .lookup t x i ok => match P.underlying t with
    | some (.map k e) => match keyOk P k, zeroOf P e with
      | some kk, some z => bin2 (.look kk z ok) x i
      | _, _ => none
    | _ => none
  | .mapUpdate t m k v => match P.underlying t with
    | some (.map kt _) => match keyOk P kt, kx m, kx k, kx v with
      | some kk, some m, some k, some v => some (.mupd kk m k v)
      | _, _, _, _ => none
    | _ => none
  | .insert t m k v => match P.underlying t with
    | some (.map kt _) => match keyOk P kt, kx m, kx k, kx v with
      | some kk, some m, some k, some v => some (.mupd kk m k v)
      | _, _, _, _ => none
    | _ => none
  | .extract t i => un1 (.ext · i) t
  | .panic x => un1 .panic x
  | .call c => match c.callee with
    | .builtin b => kbuiltin P b c.argTypes.toList c.args.toList
    | .value (.func f) => if hasBody P f then (kxs c.args.toList).map (.call f) else none
    | .value (.tmp t) => (kxs c.args.toList).map (.callv (.t t))
    | _ => none
  | _ => none

/-- Of which kind an operation is, in a region whose order is open. -/
def kindOf : KOp → Nat
  | .mov _ | .pick _ _ _ | .build _ _ | .nilchk _ | .bin _ _ _ | .eql _ _ _ _ | .eqs _ _ _ _ | .un _ _ | .conv _ _ | .convStr _ | .mkif _ _ | .mkfn _ _ _ | .slc _ _ _ _ _ | .slcs _ _ _ | .slca _ _ _ _ _ _
  | .fadr _ _ | .fld1 _ _ | .fldn _ _ _ | .idxa _ _ _ | .idxaa _ _ _ _ | .idxs _ _ | .ext _ _ | .min _ _ | .max _ _
  | .load1 _ | .loadn _ _ | .look _ _ _ _ _ | .len _ _ | .convBs _ => 1
  | .alloc _ | .box _ | .bslice _ _ _ _ | .mkslice _ _ _ _ _ => 2
  | _ => 3

def koper (ntmps : Nat) (ops : Array Oper) (o : Oper) : Option KOper :=
  match kop P o.op with
  | none => none
  | some k =>
    if (o.dst.map fun d => decide (d < ntmps)) == some false then none else
    match o.guard with
    | none => some ⟨o.dst, none, k⟩
    | some (j, b) => match (ops[j]?).bind (·.dst) with
      | some d => some ⟨o.dst, some (d, b), k⟩
      | none => none
def kopers (ntmps : Nat) (ops : Array Oper) : List Oper → Option (List KOper)
  | [] => some []
  | o :: l => match koper P ntmps ops o, kopers ntmps ops l with
    | some a, some b => some (a :: b)
    | _, _ => none

/-- An order of a region's operations: what need not wait for one of the kind 3 goes ahead of the next one of that kind. -/
def order (ks : List Nat) (bs : Array Nat) : Nat → List Nat → Nat → List Nat
  | 0, _, _ => []
  | n + 1, left, done =>
    let ready := left.filter fun i => (bs.getD i 0) &&& done == bs.getD i 0
    match ready.find? (fun i => ks.getD i 3 != 3) with
    | some i => i :: order ks bs n (left.filter (· != i)) (done ||| 2 ^ i)
    | none => match ready with
      | i :: _ => i :: order ks bs n (left.filter (· != i)) (done ||| 2 ^ i)
      | [] => []
def kxr : KX → List Nat
  | .t n => [n]
  | _ => []
def kxsr : List KX → List Nat
  | [] => []
  | x :: l => kxr x ++ kxsr l
def kpsr : List (Nat × Nat × KX) → List Nat
  | [] => []
  | p :: l => kxr p.2.2 ++ kpsr l
def kxor : Option KX → List Nat
  | none => []
  | some x => kxr x
/-- What an operation looks at. -/
def kreads : KOp → List Nat
  | .alloc _ | .mkmap => []
  | .mov x | .box x | .load1 x | .loadn _ x | .nilchk x | .un _ x | .conv _ x | .convBytes x | .convStr x | .convBs x | .mkif _ x | .fadr _ x | .fld1 _ x | .fldn _ _ x | .ext x _ | .len _ x | .panic x => kxr x
  | .store _ x y | .bin _ x y | .eql _ _ x y | .eqs _ _ x y | .mkslice _ _ _ x y | .idxa _ x y | .idxaa _ _ x y | .idxs x y | .look _ _ _ x y | .mdel _ x y | .min x y | .max x y | .apnd _ _ x y | .apndz _ _ _ x y | .copy _ x y => kxr x ++ kxr y
  | .pick x y z | .mupd _ x y z => kxr x ++ (kxr y ++ kxr z)
  | .build _ ps | .bslice _ _ _ ps => kpsr ps
  | .mkfn _ a c => kxsr a ++ kxsr c
  | .slc _ x lo hi mx | .slca _ _ x lo hi mx => kxr x ++ (kxor lo ++ (kxor hi ++ kxor mx))
  | .slcs x lo hi => kxr x ++ (kxor lo ++ kxor hi)
  | .call _ args => kxsr args
  | .callv x args => kxr x ++ kxsr args
def koReads (o : KOper) : List Nat := (match o.guard with
  | some (t, _) => [t]
  | none => []) ++ kreads o.op
def kdr (ks : List KOper) (bs : Array Nat) (chain : List Nat) (l : List Nat) : List (Nat × KDr) :=
  l.filterMap fun i => (ks[i]?).map fun o =>
    (i, { kind := kindOf o.op, lo := (chain.filter fun c => (bs.getD i 0).testBit c).length, hi := (chain.filter fun c => !(bs.getD c 0).testBit i).length, o := o })
/-- Does the first stand ahead of the second, whatever the order? -/
def fore (bs : Array Nat) (c i : Nat) : Bool := (bs.getD i 0).testBit c
/-- What 'fore' says is so: by the edges. -/
def chkFore (ops : Array Oper) (bs : Array Nat) : Bool :=
  (List.range ops.size).all fun i => (List.range ops.size).all fun c => !fore bs c i || match ops[i]? with
    | some o => o.after.toList.any fun e => Region.binds .any e && decide (e.on < i) && (e.on == c || fore bs c e.on)
    | none => false
def chkEdges (ops : Array Oper) : Bool := (List.range ops.size).all fun i => match ops[i]? with
    | some o => o.after.toList.all fun e => !Region.binds .any e || decide (e.on < i)
    | none => true
/-- Of two operations, the first one ahead of the second in the order in which they are run: what must hold. -/
def chkTwo (bs : Array Nat) (p q : Nat × KDr) : Bool :=
  p.1 != q.1 && (match p.2.o.dst, q.2.o.dst with
    | some d, some f => d != f
    | _, _ => true) &&
  (match q.2.o.dst with
    | some f => !(koReads p.2.o).contains f
    | none => true) &&
  (match p.2.o.dst with
    | some d => !(koReads q.2.o).contains d || fore bs p.1 q.1
    | none => true) &&
  (p.2.kind != 3 || fore bs p.1 q.1)
/-- And of one with those ahead of it, 'k' of the kind 3. -/
def chkOne (ops : Array Oper) (ntmps : Nat) (bs : Array Nat) (k : Nat) (seen : List (Nat × KDr)) (q : Nat × KDr) : Bool :=
  decide (q.1 < ops.size) && (match q.2.o.dst with
    | some f => !(koReads q.2.o).contains f && decide (f < ntmps)
    | none => true) &&
  seen.all (fun p => chkTwo bs p q) &&
  (q.2.kind != 3 || seen.all (fun p => p.2.kind == 3 || decide (k + 1 ≤ p.2.hi) || fore bs p.1 q.1)) && (q.2.kind == 3 || decide (k ≤ q.2.hi))
def chkAll (ops : Array Oper) (ntmps : Nat) (bs : Array Nat) : Nat → List (Nat × KDr) → List (Nat × KDr) → Bool
  | _, _, [] => true
  | k, seen, q :: l => chkOne ops ntmps bs k seen q && chkAll ops ntmps bs (if q.2.kind == 3 then k + 1 else k) (q :: seen) l
def kregion (ntmps : Nat) (ops : Array Oper) (draw : Bool) : Option KC :=
  match kopers P ntmps ops ops.toList with
  | none => none
  | some l =>
    if !draw then some (.rgn l) else
    let ks := l.map fun o => kindOf o.op
    let bs := Region.before ops
    let chain := (List.range l.length).filter fun i => ks.getD i 0 == 3
    let r := kdr l bs chain (order ks bs l.length (List.range l.length) 0)
    if chkFore ops bs && chkEdges ops && (List.range ops.size).all (fun i => r.any fun q => q.1 == i) && chkAll ops ntmps bs 0 [] r then some (.drw (r.map (·.2))) else none

def kcode (ntmps : Nat) : Code → Option KC
  | .skip => some .skip
  | .region _ ops draw => kregion P ntmps ops draw
  | .seq a b => match kcode ntmps a, kcode ntmps b with
    | some a, some b => some (.seq a b)
    | _, _ => none
  | .cond c a b => match kx c, kcode ntmps a, kcode ntmps b with
    | some c, some a, some b => some (.cond c a b)
    | _, _, _ => none
  | .block id b => (kcode ntmps b).map (.block id)
  | .loop b => (kcode ntmps b).map .loop
  | .exit id => some (.exit id)
  | .scope b => kcode ntmps b
  | .label _ => some .skip
  | .ret => some .ret
  | _ => none
def kres : List ResultVar → Option (List KRes)
  | [] => some []
  | .tmp t :: l => (kres l).map (.tmp t :: ·)
  | .cell a t :: l => match aggC P t, sizeC P t, kres l with
    | some true, some n, some r => some (.celln a n :: r)
    | some false, _, some r => some (.cell1 a :: r)
    | _, _, _ => none
def kfunc (f : Func) : Option KF :=
  match f.body with
  | none => none
  | some c => match kcode P f.ntmps c, kres P f.results.toList with
    | some b, some r => some ⟨f.ntmps, r, b⟩
    | _, _ => none
end Go.KM
