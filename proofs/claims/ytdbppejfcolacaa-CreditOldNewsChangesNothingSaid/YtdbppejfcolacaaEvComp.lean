/-
  From the model's code to the evaluator's: types looked up, guards gathered. No condition: definitions only.
-/
import Derived.Test.YtdbppejfcolacaaEvDef
namespace Go.Ev
open Go

def Sh.agg : Sh → Bool
  | .sc => false
  | _ => true

def ofSc : Value → Option AV
  | .bool b => some (.bool b)
  | .int k n => some (.int k n)
  | .string s => some (.str s.data.toList)
  | .slice none 0 0 => some (.lst true .sc [])
  | .pointer none => some (.s (.pointer none))
  | .nilFunc => some (.s .nilFunc)
  | .nilIface => some (.s .nilIface)
  | .map none => some (.s (.map none))
  | _ => none

mutual
def avOf : Sh → List Value → Option (AV × List Value)
  | .sc, v :: r => (ofSc v).map fun a => (a, r)
  | .sc, [] => none
  | .st fs, vs => (avOfs fs vs).map fun q => (.agg q.1, q.2)
  | .ar n e, vs => (avOfn n (avOf e) vs).map fun q => (.agg q.1, q.2)
def avOfs : List Sh → List Value → Option (List AV × List Value)
  | [], vs => some ([], vs)
  | s :: fs, vs => (avOf s vs).bind fun q => (avOfs fs q.2).map fun z => (q.1 :: z.1, z.2)
def avOfn : Nat → (List Value → Option (AV × List Value)) → List Value → Option (List AV × List Value)
  | 0, _, vs => some ([], vs)
  | n + 1, f, vs => (f vs).bind fun q => (avOfn n f q.2).map fun z => (q.1 :: z.1, z.2)
end

def shOf (P : Program) : Nat → TypeId → Option Sh
  | 0, _ => none
  | n + 1, t =>
    match P.underlying t with
    | some (.struct fs) =>
      (mapO (fun f => shOf P n f.type) fs.toList).bind fun l =>
        if (fs.toList.zipIdx.all fun q => q.1.offset == Sh.sizes (l.take q.2) && ((l[q.2]?).map (·.size) == (P.info? q.1.type).map (·.size))) && (P.info? t).map (·.size) == some (Sh.sizes l) then some (.st l) else none
    | some (.array k e) => (shOf P n e).bind fun s => if (P.info? e).map (·.size) == some s.size && (P.info? t).map (·.size) == some (k * s.size) then some (.ar k s) else none
    | some (.tuple _) => none
    | some _ => if (P.info? t).map (·.size) == some 1 then some .sc else none
    | none => none

def SF : Nat := 12
def zeroOf (P : Program) (t : TypeId) : Option (Sh × AV) :=
  (shOf P SF t).bind fun sh =>
    match P.info? t with
    | some i => match i.zero with
      | some z => match avOf sh z.cells.toList with
        | some (a, []) => some (sh, a)
        | _ => none
      | none => none
    | none => none

def compOpd : Operand → Option Opd
  | .tmp t => some (.t t)
  | .const v => (ofSc v).map .c
  | .global g => some (.g g)
  | .func f => some (.f f)
def compOpdO : Option Operand → Option (Option Opd)
  | none => some none
  | some x => (compOpd x).map some

def isU8 (P : Program) (t : TypeId) : Bool :=
  match P.underlying t with
  | some (.int .u8) => true
  | _ => false
/-- How a type's values are compared: only integers, bools, strings, and structs and arrays of these, no blank field. -/
def ekOf (P : Program) : Nat → TypeId → Option Ek
  | 0, _ => none
  | n + 1, t => match P.underlying t with
    | some .bool => some .bo
    | some (.int _) => some .it
    | some .string => some .sg
    | some (.struct fs) => if !P.stoodInHeld t && fs.toList.all (fun f => f.name != "_") then (mapO (fun f => ekOf P n f.type) fs.toList).map .st else none
    | some (.array k e) => (ekOf P n e).map (.ar k)
    | _ => none

/-- Which calls hand objects in, by the temporary that they yield. -/
abbrev Im := Nat → Bool
def mdOf (im : Im) : Option Nat → Mode
  | some d => if im d then .imp else .lend
  | none => .lend
def compOp (P : Program) (im : Im) (o : Oper) : Option MOp :=
  match o.op with
  | .move x | .assign x => (compOpd x).map .mov
  | .pick c a b => (compOpd c).bind fun c => (compOpd a).bind fun a => (compOpd b).map fun b => .pick c a b
  | .alloc t => (zeroOf P t).map fun q => .alloc q.1 q.2
  | .box t x => (shOf P SF t).bind fun sh => (compOpd x).map fun x => .box sh x
  | .build t ps => (zeroOf P t).bind fun q => (mapO (fun p => (compOpd p.2).map fun x => (p.1, x)) ps.toList).map fun l => .build q.1 q.2 l
  | .buildSlice t len ps =>
    match P.underlying t with
    | some (.slice e) => (zeroOf P e).bind fun q => if len * q.1.size ≤ 2 ^ 24 then (mapO (fun p => (compOpd p.2).map fun x => (p.1, x)) ps.toList).map fun l => .bslice q.1 q.2 len l else none
    | _ => none
  | .load t a => (shOf P SF t).bind fun sh => (compOpd a).map fun a => .load sh.agg sh.size a
  | .store t a x => (shOf P SF t).bind fun sh => (compOpd a).bind fun a => (compOpd x).map fun x => .store sh.size a x
  | .binOp op t x y _ =>
    (compOpd x).bind fun x => (compOpd y).bind fun y =>
      match P.underlying t, op with
      | some (.struct _), .eql => if !P.eqGuardType P.depth t then (shOf P SF t).bind fun sh => (ekOf P SF t).map fun k => .eqA false sh k x y else none
      | some (.struct _), .neq => if !P.eqGuardType P.depth t then (shOf P SF t).bind fun sh => (ekOf P SF t).map fun k => .eqA true sh k x y else none
      | some (.array _ _), .eql => if !P.eqGuardType P.depth t then (shOf P SF t).bind fun sh => (ekOf P SF t).map fun k => .eqA false sh k x y else none
      | some (.array _ _), .neq => if !P.eqGuardType P.depth t then (shOf P SF t).bind fun sh => (ekOf P SF t).map fun k => .eqA true sh k x y else none
      | some (.int _), _ => some (.bin op x y)
      | some .string, _ => some (.bin op x y)
      | some .bool, _ => some (.binB op x y)
      | _, _ => none
  | .unOp op _ x => (compOpd x).map fun x => .un op x
  | .convert s d x =>
    (compOpd x).bind fun x =>
      match P.underlying s, P.underlying d with
      | some (.int _), some (.int k) => some (.conv k x)
      | some .string, some .string => some (.strc x)
      | some .string, some (.slice e) => if isU8 P e && (P.info? e).map (·.size) == some 1 then some (.s2b x) else none
      | some (.slice e), some .string => if isU8 P e then some (.b2s x) else none
      | some (.slice _), some (.slice e) => if s == d && isU8 P e then some (.idc x) else none
      | _, _ => none
  | .sliceToArrayPointer t x =>
    match P.underlying t with
    | some (.array n _) => (compOpd x).map fun x => .arrAt n x
    | _ => none
  | .makeFunc (.func f) first caps => if first.size = 0 then (mapO compOpd caps.toList).map fun l => .mkfn f l else none
  | .makeSlice t l c =>
    match P.underlying t with
    | some (.slice e) => (zeroOf P e).bind fun q => (P.info? e).bind fun i => (compOpd l).bind fun l => (compOpd c).map fun c => .mkslice q.1 q.2 i.bytes l c
    | _ => none
  | .slice t x lo hi mx =>
    (compOpd x).bind fun x => (compOpdO lo).bind fun lo => (compOpdO hi).bind fun hi => (compOpdO mx).bind fun mx =>
      match P.underlying t with
      | some .string => if mx.isNone then some (.slStr x lo hi) else none
      | some (.slice e) => (P.info? e).map fun i => .slSl i.size x lo hi mx
      | some (.array n e) => if mx.isNone then (P.info? e).map fun i => .slArr n i.size x lo hi else none
      | _ => none
  | .fieldAddr t x f =>
    match P.underlying t with
    | some (.struct fs) => (fs[f]?).bind fun fd => if ((P.info? fd.type).map (·.size)).any (· != 0) then (compOpd x).map fun x => .faddr f fd.offset x else none
    | _ => none
  | .indexAddr t x i =>
    (compOpd x).bind fun x => (compOpd i).bind fun i =>
      match P.underlying t with
      | some (.slice e) => (P.info? e).map fun d => .iaddrS d.size x i
      | some (.array n e) => (P.info? e).map fun d => .iaddrA n d.size x i
      | _ => none
  | .field t x f => (shOf P SF t).bind fun sh => (compOpd x).map fun x => .field sh f x
  | .index t x i =>
    (compOpd x).bind fun x => (compOpd i).bind fun i =>
      match P.underlying t with
      | some .string => some (.idxStr x i)
      | some (.array n e) => (shOf P SF e).map fun s => .idxArr n s x i
      | _ => none
  | .extract x i => (compOpd x).map fun x => .extr x i
  | .nilCheck x => (compOpd x).map fun x => .nilck x
  | .call c =>
    (mapO compOpd c.args.toList).bind fun args =>
      match c.callee with
      | .value (.func f) => some (.call f args (mdOf im o.dst))
      | .value (.tmp t) => some (.callv (.t t) args (mdOf im o.dst))
      | .builtin .len =>
        match c.argTypes.toList, args with
        | [t], [x] => match P.underlying t with
          | some .string => some (.len true x)
          | some (.slice _) => some (.len false x)
          | some (.array n _) => some (.mov (.c (.int .i64 n)))
          | _ => none
        | _, _ => none
      | .builtin .append =>
        match c.argTypes.toList, args with
        | [t, u], [x, y] =>
          match P.underlying t, P.underlying u with
          | some (.slice e), some (.slice _) => (zeroOf P e).bind fun q => (P.info? e).map fun i => .append q.1 i.bytes x y
          | some (.slice e), some .string => (zeroOf P e).bind fun q => (P.info? e).map fun i => .append q.1 i.bytes x y
          | some (.slice e), some (.int .i64) => (zeroOf P e).bind fun q => (P.info? e).map fun i => .appmk q.1 q.2 i.bytes x y
          | _, _ => none
        | _, _ => none
      | .builtin .copy =>
        match c.argTypes.toList, args with
        | [t, _], [x, y] =>
          match P.underlying t with
          | some (.slice e) => (shOf P SF e).map fun sh => .copy sh x y
          | _ => none
        | _, _ => none
      | .builtin .clear =>
        match c.argTypes.toList, args with
        | [t], [x] => match P.underlying t with
          | some (.slice e) => (zeroOf P e).map fun q => .clear q.1 q.2 x
          | _ => none
        | _, _ => none
      | .builtin .cap =>
        match c.argTypes.toList, args with
        | [t], [x] => match P.underlying t with
          | some (.slice _) => some (.capl x)
          | _ => none
        | _, _ => none
      | .builtin .min => some (.mini args)
      | .builtin .max => some (.maxi args)
      | _ => none
  | _ => none

def isWriteOp : MOp → Bool
  | .append .. | .copy .. | .store .. | .idc _ | .clear .. => true
  | .call _ _ .imp | .callv _ _ .imp => true
  | _ => false
def Opd.out (lo hi : Nat) : Opd → Bool
  | .t i => !(decide (lo ≤ i) && decide (i < hi))
  | _ => true
/-- The operations from i up to q may be left out together: what they yield lies from lo up to hi, the test c is not among it, they write nothing, and each is guarded by the test at k or by one of them before it. -/
def blkOk (P : Program) (im : Im) (ops : Array Oper) (i q k c lo hi : Nat) (want : Bool) : Bool :=
  (List.range q).all fun r => decide (r < i) ||
    match ops[r]? with
    | some o => (match o.dst with | some d => decide (lo ≤ d) && decide (d < hi) && d != c | none => false) &&
        (match compOp P im o with | some m => !isWriteOp m | none => false) &&
        (match o.guard with | some (j, w) => (j == k && w == want) || (decide (i ≤ j) && decide (j < r)) | none => false)
    | none => false

/-- A region's operations, gathered. -/
def compIts (P : Program) (im : Im) (ops : Array Oper) : Nat → Option (Nat × Bool) → Nat → Nat → Option (Its × Nat)
  | 0, _, _, _ => none
  | n + 1, g, lo, i =>
    match ops[i]? with
    | none => some (.nil, i)
    | some o =>
      if o.guard = g then
        (compOp P im o).bind fun m => (compIts P im ops n g lo (i + 1)).map fun q => (.op o.dst m q.1, q.2)
      else
        match o.guard with
        | none => some (.nil, i)
        | some (j, want) =>
          if lo ≤ j then
            (compIts P im ops n (some (j, want)) i i).bind fun q =>
              match ops[q.2]? with
              | some { dst := some d, op := .pick (.tmp c) a b, guard := g', .. } =>
                if g' = g ∧ (ops[j]?).bind (·.dst) = some c then
                  (compOpd a).bind fun a => (compOpd b).bind fun b =>
                    match (ops[i]?).bind (·.dst), (ops[q.2 - 1]?).bind (·.dst) with
                    | some l, some h =>
                      if blkOk P im ops i q.2 j c l (h + 1) want && (if want then b else a).out l (h + 1) then
                        (compIts P im ops n g lo (q.2 + 1)).map fun z => (.ite c want q.1 l (h + 1) d a b z.1, z.2)
                      else none
                    | _, _ => none
                else none
              | _ => none
          else some (.nil, i)

def isHeapOp : MOp → Bool
  | .load .. | .b2s _ | .arrAt .. | .slSl .. | .slArr .. | .faddr .. | .iaddrA .. | .iaddrS .. | .call .. | .callv .. | .append .. | .copy .. | .store .. | .idc _ | .clear .. | .appmk .. => true
  | _ => false
def isCallOp : MOp → Bool
  | .call _ _ .lend | .callv _ _ .lend => true
  | _ => false
def isImp : MOp → Bool
  | .call _ _ .imp | .callv _ _ .imp => true
  | _ => false
def isAnyCall : MOp → Bool
  | .call .. | .callv .. => true
  | _ => false
def isNewOp : MOp → Bool
  | .alloc .. | .box .. | .bslice .. | .s2b _ | .mkslice .. | .call .. | .callv .. | .append .. | .appmk .. => true
  | _ => false

def compFO (P : Program) (im : Im) (ops : Array Oper) (o : Oper) : Option FO :=
  (compOp P im o).bind fun m =>
    match o.guard with
    | none => some { d := o.dst, m, g := none }
    | some (j, want) => ((ops[j]?).bind (·.dst)).map fun c => { d := o.dst, m, g := some (c, want) }

/-- The temporaries that an operation uses. -/
def FO.uses (o : FO) : List Nat := (o.m.opds.filterMap fun x => match x with | .t i => some i | _ => none) ++ (match o.g with | some (c, _) => [c] | none => [])
/-- Are all constants without references? -/
def MOp.cOk (m : MOp) : Bool := m.opds.all fun x => match x with | .c a => a.refs.isEmpty | _ => true
/-- Two operations share no temporary that one of them yields; none is a call where the other writes. -/
def FO.apart (u o : FO) : Bool :=
  (match u.d with | some d => !o.uses.contains d && o.d != some d | none => true) && (match o.d with | some d => !u.uses.contains d | none => true) &&
    !(isWriteOp u.m && isCallOp o.m) && !(isCallOp u.m && isWriteOp o.m)
/-- One writes what the other might read. -/
def FO.clash (u o : FO) : Bool := (isWriteOp u.m && isHeapOp o.m) || (isHeapOp u.m && isWriteOp o.m)
/-- Edges lead back. -/
def edgesOk (ops : Array Oper) : Bool := ops.toList.zipIdx.all fun q => q.1.after.toList.all fun e => !Region.binds .any e || decide (e.on < q.2)
/-- What two operations of a drawn region share of temporaries is settled by the order; a call and a write are in a fixed order. -/
def drawOk (ops : Array Oper) (fos : List FO) : Bool :=
  let b := Region.before ops
  edgesOk ops && fos.all (fun o => o.m.cOk) && fos.zipIdx.all fun q => (fos.take q.2).zipIdx.all fun r => (b.getD q.2 0).testBit r.2 || r.1.apart q.1

/-- The pairs of a drawn region's operations that must be looked at: not in a fixed order, and one of them writes what the other might read. -/
def pairsOf (ops : Array Oper) (fos : List FO) : List (Nat × Nat) :=
  let b := Region.before ops
  fos.zipIdx.flatMap fun q => (fos.take q.2).zipIdx.filterMap fun r => if !(b.getD q.2 0).testBit r.2 && r.1.clash q.1 then some (r.2, q.2) else none

def assoc (l : List (Nat × List Kp)) (k : Nat) : Option (List Kp) := (l.find? (·.1 == k)).map (·.2)

structure Ann where
  loops : List (Nat × List Kp)
  after : List (Nat × List Kp)
  im : List Nat := []
def Ann.imf (an : Ann) : Im := fun d => an.im.contains d

def compReg (P : Program) (an : Ann) (ops : Array Oper) : Bool → Option MC
  | false => (compIts P an.imf ops (2 * ops.size + 2) none 0 0).bind fun q => if q.2 = ops.size then some (.reg q.1) else none
  | true => (mapO (compFO P an.imf ops) ops.toList).bind fun l => if drawOk ops l then some (.draw l (pairsOf ops l)) else none
/-- What is not taken becomes a place at which evaluation stands. -/
def comp (P : Program) (an : Ann) : Nat → Code → Option MC
  | _, .skip => some .skip
  | _, .region _ ops draw => some ((compReg P an ops draw).getD .bad)
  | id, .seq a b => (comp P an id a).bind fun a => (comp P an id b).map fun b => .seq a b
  | id, .cond c a b => (compOpd c).bind fun c => (comp P an id a).bind fun a => (comp P an id b).map fun b => .cond c a b
  | _, .block id b => (comp P an id b).map fun b => match assoc an.after id with | some ks => .kept ks (.block id b) | none => .block id b
  | id, .loop b => (comp P an 1000000 b).map fun b => .loop ((assoc an.loops id).getD []) b
  | _, .exit id => some (.exit id)
  | _, .ret => some .ret
  | _, _ => some .bad

def compRes (P : Program) : ResultVar → Option ResD
  | .tmp t => some (.tmp t)
  | .cell a t => (shOf P SF t).map fun sh => .cell a sh.agg sh.size

end Go.Ev
