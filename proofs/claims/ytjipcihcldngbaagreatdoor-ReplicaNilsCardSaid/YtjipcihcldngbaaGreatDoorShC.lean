/- Shadow evaluation, 3: the evaluator. -/
import Derived.Test.YtjipcihcldngbaaGreatDoorShB
namespace Go.Sh

/-! ### The program's tables -/
def tyT (P : Program) : Tr (Option TypeDesc × Option TypeInfo) := Tr.ofList ((List.range P.types.size).map fun t => (P.underlying t, P.info? t))
def und (P : Program) (t : TypeId) : Option TypeDesc := match (tyT P).get t with | some (some d, _) => some d | _ => none
def inf (P : Program) (t : TypeId) : Option TypeInfo := match (tyT P).get t with | some (_, some i) => some i | _ => none
def fnT (P : Program) : Tr (Option Func) := Tr.ofList (P.funcs.toList.map fun f => if f.name == "runtime.NumGoroutine" then none else some f)
def fnAt (P : Program) (f : FuncId) : Option Func := match (fnT P).get f with | some (some g) => some g | _ => none

/-- A pure run: no memory is met. -/
inductive PR (α : Type) where
  | ok (a : α)
  | pan (v : Value)
  | no
def prun {α : Type} (P : Program) : Sem α → PR α
  | .pure a => .ok a
  | .program k => prun P (k P)
  | .mark _ k => prun P k
  | .halt (.panic v) => .pan v
  | _ => .no

/-- The zero value's cells, if they are plain. -/
def zeroC (P : Program) (t : TypeId) : Option (List Value) :=
  match inf P t with
  | some i => match i.zero with
    | some z => bif z.cells.toList.all plain && Nat.beq z.cells.toList.length i.size then some z.cells.toList else none
    | none => none
  | none => none

/-- The value of type t that lies in these cells from 'off' on. -/
def valAt (P : Program) (t : TypeId) (c : List Value) (off : Nat) : Option Value :=
  match und P t, inf P t with
  | some (.struct _), some i | some (.array _ _), some i => let l := (c.drop off).take i.size; bif Nat.beq l.length i.size then some (.agg ⟨l⟩) else none
  | some _, some _ => c[off]?
  | _, _ => none

/-- Cells laid into cells. -/
def lay (c : List Value) (off : Nat) (vs : List Value) : List Value := c.take off ++ (vs ++ c.drop (off + vs.length))

def fillS (place : Nat → Option (Nat × Nat)) : List (Nat × Value) → List Value → Option (List Value)
  | [], c => some c
  | (i, v) :: r, c => match place i with
    | none => none
    | some (off, size) => let vs := v.cells.toList
      bif Nat.beq vs.length size && Nat.ble (off + vs.length) c.length then fillS place r (lay c off vs) else none

@[reducible] def Env := Operand → Option Value

def evParts (e : Env) : List (Nat × Operand) → Option (List (Nat × Value))
  | [] => some []
  | (i, x) :: r => match e x, evParts e r with
    | some v, some l => some ((i, v) :: l)
    | _, _ => none
def evArgs (e : Env) : List Operand → Option (List Value)
  | [] => some []
  | x :: r => match e x, evArgs e r with
    | some v, some l => some (v :: l)
    | _, _ => none

def buildS (P : Program) (t : TypeId) (parts : List (Nat × Value)) : Option Value :=
  match zeroC P t, und P t with
  | some z, some (.struct fields) =>
    match fields.toList.mapM fun f => (inf P f.type).map fun i => (f.offset, i.size) with
    | some places => (fillS (fun i => places[i]?) parts z).map fun c => .agg ⟨c⟩
    | none => none
  | some z, some (.array _ elem) => match inf P elem with
    | some i => (fillS (fun k => some (k * i.size, i.size)) parts z).map fun c => .agg ⟨c⟩
    | none => none
  | _, _ => none

/-- Compared with nil: what has an address is not. -/
def nilCmp (P : Program) (t : TypeId) (x y : Value) : Bool :=
  match und P t, x, y with
  | some (.pointer _), .pointer (some _), .pointer none | some (.pointer _), .pointer none, .pointer (some _)
  | some (.slice _), .slice (some _) _ _, .slice none _ _ | some (.slice _), .slice none _ _, .slice (some _) _ _
  | some (.map _ _), .map (some _), .map none | some (.map _ _), .map none, .map (some _)
  | some (.func _ _ _), .func _ _ _, .nilFunc | some (.func _ _ _), .nilFunc, .func _ _ _
  | some (.interface _), .iface _ _, .nilIface | some (.interface _), .nilIface, .iface _ _ => true
  | _, _, _ => false

def boundS (e : Env) (x : Option Operand) (d : Nat) (hi : Nat) : Option Nat :=
  match x with
  | none => some d
  | some x => match e x with
    | some (.int _ n) => bif decide (0 ≤ n) && Nat.ble n.toNat hi then some n.toNat else none
    | _ => none

/-- A slice expression over memory. -/
def sliceS (P : Program) (t : TypeId) (x : Value) (e : Env) (lo hi mx : Option Operand) : Option Value :=
  match und P t, x with
  | some (.slice el), .slice (some ⟨i, off, none⟩) n c =>
    match inf P el with
    | some ei =>
      match mx with
      | none => match boundS e hi n n with
        | some h => match boundS e lo 0 h with
          | some l => bif Nat.beq c CAPX && Nat.beq l 0 && Nat.beq off 0 then some (.slice (some ⟨i, 0, none⟩) h CAPX)
            else bif Nat.beq c CAPX || Nat.beq c CAPY then (bif Nat.blt l n then some (.slice (some ⟨i, off + l * ei.size, none⟩) (h - l) CAPY) else none)
            else bif Nat.ble h c && Nat.blt (c - l) CAPY then some (.slice (some ⟨i, off + (bif Nat.beq c l then 0 else l * ei.size), none⟩) (h - l) (c - l)) else none
          | none => none
        | none => none
      | some _ => match boundS e mx 0 (bif Nat.beq c CAPX || Nat.beq c CAPY then n else c) with
        | some m => match hi with
          | none => none
          | some _ => match boundS e hi 0 m with
            | some h => match boundS e lo 0 h with
              | some l => bif Nat.blt (m - l) CAPY then some (.slice (some ⟨i, off + (bif Nat.beq m l then 0 else l * ei.size), none⟩) (h - l) (m - l)) else none
              | none => none
            | none => none
        | none => none
    | none => none
  | some (.array n el), .pointer (some ⟨i, off, none⟩) =>
    match inf P el, mx with
    | some ei, none => match boundS e hi n n with
      | some h => match boundS e lo 0 h with
        | some l => bif Nat.blt (n - l) CAPY then some (.slice (some ⟨i, off + (bif Nat.beq n l then 0 else l * ei.size), none⟩) (h - l) (n - l)) else none
        | none => none
      | none => none
    | _, _ => none
  | _, _ => none

/-- An operation none of whose operands has an address: as the model runs it, if it meets no memory. -/
def plainOp (P : Program) (e : Env) (o : Oper) : Option Value :=
  bif o.op.operands.toList.all (fun x => match e x with | some v => plain v | none => false) && (match o.op with | .select .. => false | _ => true) then
    match prun P (execOp (fun x => (e x).getD undef) o) with
    | .ok (.value v) => bif plain v then some v else none
    | _ => none
  else none

/-- A method of what an interface value holds, where no memory is met. -/
def followS (P : Program) : List FieldStep → TypeId → Value → Option (TypeId × Value)
  | [], t, v => some (t, v)
  | s :: r, _, v => match s.deref, und P s.struct, v with
    | false, some (.struct fields), .agg cs => match fields.toList[s.index]? with
      | some f => match valAt P f.type cs.toList f.offset with
        | some u => followS P r f.type u
        | none => none
      | none => none
    | _, _, _ => none
def methodS (P : Program) (t : TypeId) (v : Value) (name : String) : Option (FuncId × Value) :=
  match inf P t with
  | some i => match i.methods.find? (·.name == name) with
    | some m => match m.func, followS P m.path.toList t v with
      | some (f, ptr), some (xt, u) => match und P xt with
        | some (.pointer _) => bif ptr then some (f, u) else none
        | some _ => bif ptr then none else some (f, u)
        | none => none
      | _, _ => none
    | none => none
  | none => none

/-- The method's receiver is seen to be no nil pointer. -/
def headOk (P : Program) (t : TypeId) (v : Value) (name : String) : Bool :=
  match inf P t with
  | some i => match i.methods.find? (·.name == name) with
    | some m => match m.func, followS P m.path.toList t v with
      | some (_, true), some _ => true
      | some (_, false), some (xt, u) => match und P xt, u with
        | some (.pointer _), .pointer (some _) => true
        | some (.pointer _), _ => false
        | some _, _ => true
        | none, _ => false
      | _, _ => false
    | none => false
  | none => false

/-- What needs no memory. -/
def pureOp (P : Program) (e : Env) (o : Oper) : Option Value :=
  match o.op with
  | .move x | .assign x => e x
  | .pick c a b => match e c with
    | some (.bool true) => e a
    | some (.bool false) => e b
    | _ => none
  | .extract x i => match e x with
    | some (.tuple vs) => vs.toList[i]?
    | _ => none
  | .nilCheck x => match e x with
    | some (.pointer (some a)) => some (.pointer (some a))
    | some (.func (.func f) a b) => some (.func (.func f) a b)
    | some (.func (.method name) a b) => match a.toList with
      | .iface t v :: _ => bif headOk P t v name then some (.func (.method name) a b) else none
      | _ => none
    | _ => none
  | .fieldAddr s x f => match e x, und P s with
    | some (.pointer (some ⟨i, off, none⟩)), some (.struct fields) => match fields.toList[f]? with
      | some fd => match inf P fd.type with
        | some fi => bif Nat.beq fi.size 0 then none else some (.pointer (some ⟨i, off + fd.offset, none⟩))
        | none => none
      | none => none
    | _, _ => none
  | .indexAddr t x ix => match e x, e ix, und P t with
    | some (.slice (some ⟨i, off, none⟩) n _), some (.int _ k), some (.slice el) => match inf P el with
      | some ei => bif decide (0 ≤ k) && Nat.blt k.toNat n then some (.pointer (some ⟨i, off + k.toNat * ei.size, none⟩)) else none
      | none => none
    | some (.pointer (some ⟨i, off, none⟩)), some (.int _ k), some (.array n el) => match inf P el with
      | some ei => bif decide (0 ≤ k) && Nat.blt k.toNat n then some (.pointer (some ⟨i, off + k.toNat * ei.size, none⟩)) else none
      | none => none
    | _, _, _ => none
  | .slice t x lo hi mx => match e x with
    | some v => match sliceS P t v e lo hi mx with
      | some r => some r
      | none => plainOp P e o
    | none => none
  | .makeInterface t x => match e x, und P t with
    | some _, some (.interface _) => none
    | some v, some _ => some (.iface t v)
    | _, _ => none
  | .makeFunc (.func f) a b => match evArgs e a.toList, evArgs e b.toList with
    | some u, some v => some (.func (.func f) ⟨u⟩ ⟨v⟩)
    | _, _ => none
  | .makeFunc (.method name) a b => match evArgs e a.toList, evArgs e b.toList with
    | some u, some v => some (.func (.method name) ⟨u⟩ ⟨v⟩)
    | _, _ => none
  | .build t parts => match evParts e parts.toList with
    | some l => buildS P t l
    | none => none
  | .field t x f => match e x, und P t with
    | some (.agg cs), some (.struct fields) => match fields.toList[f]? with
      | some fd => valAt P fd.type cs.toList fd.offset
      | none => none
    | _, _ => none
  | .index t x ix => match e x, e ix, und P t with
    | some (.agg cs), some (.int _ k), some (.array n el) => match inf P el with
      | some ei => bif decide (0 ≤ k) && Nat.blt k.toNat n then valAt P el cs.toList (k.toNat * ei.size) else none
      | none => none
    | _, _, _ => plainOp P e o
  | .typeAssert x _ asserted ok => match e x, und P asserted with
    | some _, some (.interface _) => none
    | some (.iface t v), some _ => bif Nat.beq t asserted then some (bif ok then .tuple ⟨[v, .bool true]⟩ else v) else
      bif ok then (match inf P asserted with
        | some i => match i.zero with
          | some z => bif plain z then some (.tuple ⟨[z, .bool false]⟩) else none
          | none => none
        | none => none) else none
    | _, _ => none
  | .binOp .eql t x y _ => match e x, e y with
    | some a, some b => bif nilCmp P t a b then some (.bool false) else plainOp P e o
    | _, _ => none
  | .binOp .neq t x y _ => match e x, e y with
    | some a, some b => bif nilCmp P t a b then some (.bool true) else plainOp P e o
    | _, _ => none
  | _ => plainOp P e o

/-- The place of a key among entries. -/
def findS (P : Program) (kt : TypeId) (k : Value) (es : List (Value × Value × Nat)) : Option (Option (Nat × Value)) :=
  match prun P (Instr.findKey kt k (es.map fun x => { key := x.1, val := .nilFunc, born := 0 })) with
  | .ok none => some none
  | .ok (some (i, _)) => match es[i]? with
    | some x => some (some (i, x.2.1))
    | none => none
  | _ => none

def lookupS (P : Program) (t : TypeId) (es : List (Value × Value × Nat)) (k : Value) (ok : Bool) : Option Value :=
  match und P t with
  | some (.map kt el) =>
    match prun P (Instr.checkKey es.isEmpty 10000 kt k), inf P el with
    | .ok (), some i => match findS P kt k es with
      | some (some (_, v)) => some (bif ok then .tuple ⟨[v, .bool true]⟩ else v)
      | some none => match i.zero with
        | some z => bif plain z then some (bif ok then .tuple ⟨[z, .bool false]⟩ else z) else none
        | none => none
      | none => none
    | _, _ => none
  | _ => none

def cellsS (σ : SW) (i : Nat) : Option (List Value) :=
  match σ.heap.get i with
  | some (.cells c _) | some (.row c _ _) => some c
  | _ => none

/-- The text of bytes. -/
def strOf : List Value → Option (List UInt8)
  | [] => some []
  | .int .u8 k :: l => bif decide (0 ≤ k) && Nat.ble k.toNat 255 then (match strOf l with | some r => some (UInt8.ofNat k.toNat :: r) | none => none) else none
  | _ => none
def bytesS (P : Program) (σ : SW) (el : TypeId) (i off n : Nat) : Option Value :=
  match und P el, inf P el, cellsS σ i with
  | some (.int .u8), some ei, some c =>
    bif Nat.beq ei.size 1 && Nat.beq ((c.drop off).take n).length n then (match strOf ((c.drop off).take n) with | some l => some (.string ⟨⟨l⟩⟩) | none => none) else none
  | _, _, _ => none

/-- What reads memory and leaves it as it is. -/
def readOp (P : Program) (e : Env) (o : Oper) (σ : SW) : Option Value :=
  match o.op with
  | .load t x => match e x with
    | some (.pointer (some ⟨i, off, none⟩)) => match cellsS σ i with
      | some c => valAt P t c off
      | none => none
    | _ => none
  | .lookup t x k ok => match e x, e k with
    | some (.map none), some kv => bif plain kv then lookupS P t [] kv ok else none
    | some (.map (some i)), some kv => match σ.heap.get i with
      | some (.map es _) => bif plain kv then lookupS P t es kv ok else none
      | _ => none
    | _, _ => none
  | .call { callee := .builtin .len, args, argTypes } => match args.toList, argTypes.toList with
    | [x], [t] => match e x, und P t with
      | some (.slice (some _) n _), some (.slice _) => some (.int .i64 n)
      | some (.map (some i)), some (.map _ _) => match σ.heap.get i with
        | some (.map es _) => some (.int .i64 es.length)
        | _ => none
      | some _, some _ => plainOp P e o
      | _, _ => none
    | _, _ => none
  | .convert s d x => match e x, und P s, und P d with
    | some (.slice (some ⟨i, off, none⟩) n _), some (.slice el), some .string => bytesS P σ el i off n
    | _, _, _ => pureOp P e o
  | .entry x => match e x with
    | some (.pointer (some ⟨i, 0, none⟩)) => match σ.heap.get i with
      | some (.miter (some m) _ seen st) => match seen.getLast?, σ.heap.get m with
        | some b, some (.map es clock) => bif Nat.beq clock st then (match es.find? (fun x => Nat.beq x.2.2 b) with
          | some x => some (.tuple ⟨[x.1, x.2.1]⟩)
          | none => none) else none
        | _, _ => none
      | _ => none
    | _ => none
  | _ => pureOp P e o

/-- What lays a block and reads none: the block, and what is said of where it lies. -/
def allocOp (P : Program) (e : Env) (o : Oper) : Option (SObj × (Nat → Value)) :=
  match o.op with
  | .alloc t => (zeroC P t).map fun z => (.cells z t, fun i => .pointer (some ⟨i, 0, none⟩))
  | .box t x => (e x).map fun v => (.cells v.cells.toList t, fun i => .pointer (some ⟨i, 0, none⟩))
  | .makeMap t r => match r with
    | none => some (.map [] 0, fun i => .map (some i))
    | some x => match e x, und P t with
      | some (.int _ _), some (.map _ _) => some (.map [] 0, fun i => .map (some i))
      | _, _ => none
  | .buildSlice t len parts => match und P t with
    | some (.slice el) => match zeroC P el, inf P el, evParts e parts.toList with
      | some z, some ei, some l =>
        bif Nat.ble (len * ei.size) 16777216 && Nat.blt len CAPY then
          (fillS (fun k => some (k * ei.size, ei.size)) l ((List.range (len * ei.size)).map fun k => z.getD (k % z.length) undef)).map
            fun c => (.cells c el, fun i => .slice (some ⟨i, 0, none⟩) len len)
        else none
      | _, _, _ => none
    | _ => none
  | _ => none

inductive Cls where
  | pure | read | alloc | eff
def clsConv : Option TypeDesc → Cls
  | some (.slice _) => .eff
  | some .string => .read
  | _ => .pure
def cls (P : Program) (o : Oper) : Cls :=
  match o.op with
  | .convert _ d _ => clsConv (und P d)
  | .move _ | .assign _ | .pick .. | .extract .. | .nilCheck _ | .fieldAddr .. | .indexAddr .. | .slice .. | .makeInterface .. | .makeFunc .. | .build .. | .field .. | .index .. | .typeAssert .. | .binOp .. | .unOp .. => .pure
  | .load .. | .lookup .. | .entry _ => .read
  | .alloc _ | .box .. | .makeMap .. | .buildSlice .. => .alloc
  | .call { callee := .builtin b, .. } => match b with
    | .len => .read
    | .cap | .min | .max => .pure
    | _ => .eff
  | _ => .eff

/-! ### Frames -/
structure Fr where
  tm : Tr Value
  n : Nat                               -- so many temporaries there are at the least
  defers : List Deferred
  pc : Option (List PanicEntry)         -- of a deferred call: how its caller panics
  wk : SW

inductive Ex where
  | normal | exit (id : Nat) | ret | panic (chain : List PanicEntry)

def Fr.env (P : Program) (fr : Fr) : Env
  | .tmp t => fr.tm.get t
  | .const v => bif plain v then some v else none
  | .global g => bif Nat.blt g P.globals.size then some (.pointer (some ⟨g, 0, none⟩)) else none
  | .func f => some (.func (.func f) #[] #[])

def Fr.put (fr : Fr) (d : Option Tmp) (v : Value) : Option Fr :=
  match d with
  | some t => bif Nat.blt t fr.n then some { fr with tm := fr.tm.put t (some v) } else none
  | none => some fr

inductive End where
  | ret (v : Value)
  | pan (c : List PanicEntry)
structure CR where
  e : End
  pc : Option (List PanicEntry)
  w : SW
structure Ev where
  code : Option Nat → Nat → Code → Fr → Option (Ex × Fr)
  call : Nat → List Value → Option (List PanicEntry) → SW → Option CR
  unw : Nat → Option (List PanicEntry) → Fr → Option CR

def wantedS (ops : Array Oper) (o : Oper) (fr : Fr) : Option Bool :=
  match o.guard with
  | none => some true
  | some (j, want) => match ops[j]? with
    | some oj => match oj.dst with
      | some d => match fr.tm.get d with
        | some (.bool b) => some (b == want)
        | some (.tuple _) => some false
        | _ => none
      | none => none
    | none => none

inductive Tgt where
  | enter (f : FuncId) (args : List Value)
  | round (l : Nat) (args : List Value)
def target (P : Program) (e : Env) (c : Call) : Option Tgt :=
  match evArgs e c.args.toList with
  | some args => match c.callee with
    | .value x => match e x with
      | some (.func (.func f) a b) => some (.enter f (a.toList ++ args ++ b.toList))
      | some (.func (.yield l) _ _) => some (.round l args)
      | _ => none
    | .invoke r name => match e r with
      | some (.iface t v) => match methodS P t v name with
        | some (f, u) => some (.enter f (u :: args))
        | none => none
      | _ => none
    | .builtin _ => none
  | none => none

def storeS (P : Program) (σ : SW) (t : TypeId) (i off : Nat) (v : Value) : Option SW :=
  let vs := v.cells.toList
  match inf P t with
  | some ti => bif Nat.beq vs.length ti.size && vs.all (·.oneCell') && Nat.ble P.globals.size i then
      match σ.heap.get i with
      | some (.cells c e) => bif Nat.ble (off + vs.length) c.length then some { σ with heap := σ.heap.put i (some (.cells (lay c off vs) e)) } else none
      | some (.row c e s) => bif Nat.ble (off + vs.length) c.length then some { σ with heap := σ.heap.put i (some (.row (lay c off vs) e s)) } else none
      | _ => none
    else none
  | none => none

/-- The cells of what is appended. -/
def srcS (σ : SW) (size : Nat) (x : Value) : Option (Nat × List Value) :=
  match x with
  | .slice none n _ => bif Nat.beq n 0 then some (0, []) else none
  | .slice (some ⟨i, off, none⟩) n _ => match cellsS σ i with
    | some c => let l := (c.drop off).take (n * size); bif Nat.beq l.length (n * size) then some (n, l) else none
    | none => none
  | .string s => bif Nat.beq size 1 then some (s.size, s.data.toList.map fun b => .int .u8 b.toNat) else none
  | _ => none

def appendS (P : Program) (t tx : TypeId) (s x : Value) (σ : SW) : Option (Value × SW) :=
  match und P t, s with
  | some (.slice el), .slice base n c =>
    match inf P el, zeroC P el, (match und P tx with | some (.slice _) | some .string => true | _ => false) with
    | some ei, some _, true => match srcS σ ei.size x with
      | some (m, news) =>
        bif !(news.all (·.oneCell')) then none else
        bif Nat.beq m 0 then
          (match base with
            | none => bif Nat.beq n 0 && Nat.beq c 0 then some (s, σ) else none
            | some _ => bif Nat.beq c CAPX || Nat.ble n c then some (s, σ) else none)
        else
          bif !(Nat.ble (n + m) 1099511627776 && Nat.ble ((n + m) * ei.bytes) 70368744177664) then none else
          match base with
          | none => bif Nat.beq n 0 && Nat.beq c 0 then some (.slice (some ⟨σ.next, 0, none⟩) m CAPX, { heap := σ.heap.put σ.next (some (.row news el ei.size)), next := σ.next + 1 }) else none
          | some ⟨i, off, none⟩ =>
            match cellsS σ i with
            | some cs =>
              let olds := (cs.drop off).take (n * ei.size)
              bif !(Nat.beq olds.length (n * ei.size) && olds.all (·.oneCell')) then none else
              bif Nat.beq c CAPX then
                (match σ.heap.get i with
                  | some (.row _ e sz) => bif Nat.beq off 0 && Nat.beq e el && Nat.beq sz ei.size && Nat.ble P.globals.size i && Nat.blt 0 sz then
                      some (.slice (some ⟨σ.next, 0, none⟩) (n + m) CAPX, { heap := (σ.heap.put i none).put σ.next (some (.row (olds ++ news) el ei.size)), next := σ.next + 1 }) else none
                  | _ => none)
              else bif Nat.blt c (n + m) then
                some (.slice (some ⟨σ.next, 0, none⟩) (n + m) CAPX, { heap := σ.heap.put σ.next (some (.row (olds ++ news) el ei.size)), next := σ.next + 1 })
              else none
            | none => none
          | _ => none
      | none => none
    | _, _, _ => none
  | _, _ => none

/-- Zeros appended to nothing. -/
def makeS (P : Program) (t : TypeId) (s : Value) (k : Nat) (σ : SW) : Option (Value × SW) :=
  match und P t, s with
  | some (.slice el), .slice none 0 0 =>
    match inf P el, zeroC P el with
    | some ei, some z =>
      bif Nat.beq k 0 then some (.slice none 0 0, σ) else
      bif Nat.ble (k * ei.size) 16777216 && Nat.ble (k * ei.bytes) 70368744177664 && Nat.ble k 16777216 && Nat.blt 0 ei.size then
        some (.slice (some ⟨σ.next, 0, none⟩) k CAPX, { heap := σ.heap.put σ.next (some (.row ((List.range (k * ei.size)).map fun j => z.getD (j % z.length) undef) el ei.size)), next := σ.next + 1 })
      else none
    | _, _ => none
  | _, _ => none
def isInt : Option TypeDesc → Bool
  | some (.int _) => true
  | _ => false
def appendX (P : Program) (t tx : TypeId) (s x : Value) (σ : SW) : Option (Value × SW) :=
  match x with
  | .int .i64 k => bif isInt (und P tx) && decide (0 ≤ k) then makeS P t s k.toNat σ else none
  | _ => appendS P t tx s x σ

def mapUpdateS (P : Program) (t : TypeId) (i : Nat) (k v : Value) (σ : SW) : Option SW :=
  match und P t, σ.heap.get i with
  | some (.map kt _), some (.map es clock) =>
    bif !(plain k && Nat.ble P.globals.size i) then none else
    match prun P (Instr.checkKey false 10000 kt k), findS P kt k es with
    | .ok (), some (some (j, _)) => match es[j]? with
      | some x => match prun P (Instr.keyThatStays x.1 k) with
        | .ok k' => bif plain k' then some { σ with heap := σ.heap.put i (some (.map (es.set j (k', v, x.2.2)) clock)) } else none
        | _ => none
      | none => none
    | .ok (), some none => some { σ with heap := σ.heap.put i (some (.map (es ++ [(k, v, clock)]) (clock + 1))) }
    | _, _ => none
  | _, _ => none

def isU8 : Option TypeDesc → Bool
  | some (.int .u8) => true
  | _ => false
def deleteS (P : Program) (t : TypeId) (i : Nat) (k : Value) (σ : SW) : Option SW :=
  match und P t, σ.heap.get i with
  | some (.map kt _), some (.map es clock) =>
    bif !(plain k && Nat.ble P.globals.size i) then none else
    match prun P (Instr.checkKey es.isEmpty 10000 kt k), findS P kt k es with
    | .ok (), some (some (j, _)) => some { σ with heap := σ.heap.put i (some (.map (es.eraseIdx j) clock)) }
    | .ok (), some none => some { σ with heap := σ.heap.put i (some (.map es clock)) }
    | _, _ => none
  | _, _ => none

/-- A text's bytes, in a row of their own. -/
def toBytesS (P : Program) (el : TypeId) (b : ByteArray) (σ : SW) : Option (Value × SW) :=
  match und P el, inf P el, zeroC P el with
  | some (.int .u8), some ei, some _ =>
    bif Nat.beq ei.size 1 && Nat.ble b.size 1099511627776 && Nat.ble (b.size * ei.bytes) 70368744177664 then
      some (.slice (some ⟨σ.next, 0, none⟩) b.size CAPX, { heap := σ.heap.put σ.next (some (.row (b.data.toList.map fun b => .int .u8 b.toNat) el 1)), next := σ.next + 1 })
    else none
  | _, _, _ => none

def rangeS (P : Program) (t : TypeId) (x : Value) (σ : SW) : Option SObj :=
  match und P t, x with
  | some .string, .string s => some (.siter s 0)
  | some (.map _ _), .map none => some (.miter none 0 [] 0)
  | some (.map _ _), .map (some i) => match σ.heap.get i with
    | some (.map _ clock) => some (.miter (some i) clock [] clock)
    | _ => none
  | _, _ => none

def nextS (i : Nat) (isString : Bool) (σ : SW) : Option (Value × SW) :=
  match σ.heap.get i, isString with
  | some (.siter s pos), true =>
    bif Nat.blt pos s.size then
      (let d := Utf8.decode s pos
       some (.tuple ⟨[.bool true, .int .i64 pos, .int .i32 d.1]⟩, { σ with heap := σ.heap.put i (some (.siter s (pos + d.2))) }))
    else some (.tuple ⟨[.bool false]⟩, σ)
  | some (.miter none _ _ _), false => some (.tuple ⟨[.bool false]⟩, σ)
  | some (.miter (some m) since seen st), false => match σ.heap.get m with
    | some (.map es clock) =>
      bif !((es.all fun x => Nat.blt x.2.2 since) && Nat.ble since st) then none else
      match es.filter (fun x => !(seen.contains x.2.2)) with
      | [] => some (.tuple ⟨[.bool false]⟩, σ)
      | [x] => some (.tuple ⟨[.bool true, x.1, x.2.1]⟩, { σ with heap := σ.heap.put i (some (.miter (some m) since (seen ++ [x.2.2]) clock)) })
      | _ => none
    | _ => none
  | _, _ => none

/-- A round's temporaries. -/
def roundTm (n : Nat) : List Tmp → List Value → Tr Value → Tr Value
  | p :: ps, a :: as, t => roundTm n ps as (bif Nat.blt p n then t.put p (some a) else t.put p none)
  | _, _, t => t

/-- Whatever writes memory, or calls. -/
def effOp (P : Program) (ev : Ev) (rnd : Option Nat) (o : Oper) (fr : Fr) : Option (Ex × Fr) :=
  let e := fr.env P
  let fin (v : Value) (σ : SW) : Option (Ex × Fr) := match ({ fr with wk := σ } : Fr).put o.dst v with
    | some f => some (.normal, f)
    | none => none
  match o.op with
  | .store t x v => match e x, e v with
    | some (.pointer (some ⟨i, off, none⟩)), some u => match storeS P fr.wk t i off u with
      | some σ => fin undef σ
      | none => none
    | _, _ => none
  | .mapUpdate t m k v | .insert t m k v => match e m, e k, e v with
    | some (.map (some i)), some kv, some u => match mapUpdateS P t i kv u fr.wk with
      | some σ => fin undef σ
      | none => none
    | _, _, _ => none
  | .range t x => match e x with
    | some v => match rangeS P t v fr.wk with
      | some ob => fin (.pointer (some ⟨fr.wk.next, 0, none⟩)) { heap := fr.wk.heap.put fr.wk.next (some ob), next := fr.wk.next + 1 }
      | none => none
    | none => none
  | .next x s => match e x with
    | some (.pointer (some ⟨i, 0, none⟩)) => bif Nat.ble P.globals.size i then (match nextS i s fr.wk with
      | some (v, σ) => fin v σ
      | none => none) else none
    | _ => none
  | .panic x => match e x with
    | some (.iface t v) => some (.panic [{ v := .iface t v, recovered := false }], fr)
    | _ => none
  | .defer c => match rnd, c.callee, target P e c with
    | none, .value _, some (.enter f args) => match ({ fr with defers := { target := .fn (.func f) #[], args := ⟨args⟩ } :: fr.defers } : Fr).put o.dst undef with
      | some f => some (.normal, f)
      | none => none
    | _, _, _ => none
  | .call { callee := .builtin .append, args, argTypes } => match args.toList, argTypes.toList with
    | [s, x], [t, tx] => match e s, e x with
      | some sv, some xv => match appendX P t tx sv xv fr.wk with
        | some (v, σ) => fin v σ
        | none => none
      | _, _ => none
    | _, _ => none
  | .convert s d x => match e x, und P s, und P d with
    | some (.string b), some .string, some (.slice el) => match toBytesS P el b fr.wk with
      | some (v, σ) => fin v σ
      | none => none
    | some (.slice (some ⟨i, off, none⟩) n c), some (.slice _), some (.slice el) => bif Nat.beq s d && isU8 (und P el) && (Nat.ble P.globals.size i && (cellsS fr.wk i).isSome) then fin (.slice (some ⟨i, off, none⟩) n c) fr.wk else none
    | _, _, _ => match plainOp P e o with
      | some v => fin v fr.wk
      | none => none
  | .call { callee := .builtin .delete, args, argTypes } => match args.toList, argTypes.toList with
    | [m, k], [t, _] => match e m, e k with
      | some (.map (some i)), some kv => match deleteS P t i kv fr.wk with
        | some σ => fin undef σ
        | none => none
      | _, _ => none
    | _, _ => none
  | .call { callee := .builtin .recover, .. } => match rnd, fr.pc with
    | none, some ({ v, recovered := false, goexit := false } :: older) => match ({ fr with pc := some ({ v, recovered := true } :: older) } : Fr).put o.dst v with
      | some f => some (.normal, f)
      | none => none
    | none, none => fin .nilIface fr.wk
    | _, _ => none
  | .call c => match target P e c with
    | some (.enter f args) => match (fnAt P f).map (·.body.isSome) with
      | some true => (match ev.call f args none fr.wk with
        | some ⟨.ret v, _, σ⟩ => fin v σ
        | some ⟨.pan ch, _, σ⟩ => some (.panic ch, { fr with wk := σ })
        | none => none)
      | some false => (match plainOp P e o with
        | some v => fin v fr.wk
        | none => none)
      | none => none
    | some (.round l args) => match fr.wk.heap.get l with
      | some (.loop .ready none f tm n params assign body _) =>
        bif !(Nat.beq args.length params.length && Nat.ble P.globals.size l) then none else
        match ev.code (some l) f assign { tm := roundTm n params args tm, n := n, defers := [], pc := none, wk := fr.wk } with
        | some (.normal, fr1) => match fr1.wk.heap.get l with
          | some (.loop .ready none f2 tm2 n2 params2 assign2 body2 d2) =>
            match ev.code (some l) f body { fr1 with wk := { fr1.wk with heap := fr1.wk.heap.put l (some (.loop .busy none f2 tm2 n2 params2 assign2 body2 d2)) } } with
            | some (x, fr2) =>
              (match fr2.wk.heap.get l with
              | some (.loop _ _ f3 tm3 n3 params3 assign3 body3 d3) =>
                (match x with
                | .normal => fin (.bool true) { fr2.wk with heap := fr2.wk.heap.put l (some (.loop .ready none f3 tm3 n3 params3 assign3 body3 d3)) }
                | .ret => fin (.bool false) { fr2.wk with heap := fr2.wk.heap.put l (some (.loop .done (some .ret) f3 tm3 n3 params3 assign3 body3 d3)) }
                | .exit id => fin (.bool false) { fr2.wk with heap := fr2.wk.heap.put l (some (.loop .done (some (.exit id)) f3 tm3 n3 params3 assign3 body3 d3)) }
                | .panic _ => none)
              | _ => none)
            | none => none
          | _ => none
        | _ => none
      | _ => none
    | none => none
  | _ => none

/-- The number of blocks has not fallen. -/
def chk (fr : Fr) (r : Option (Ex × Fr)) : Option (Ex × Fr) :=
  match r with
  | some (e, f) => bif Nat.ble fr.wk.next f.wk.next then some (e, f) else none
  | none => none

/-! ### Regions -/
/-- One operation, in the text's order. -/
def operS (P : Program) (ev : Ev) (rnd : Option Nat) (o : Oper) (fr : Fr) : Option (Ex × Fr) :=
  match cls P o with
  | .pure => match pureOp P (fr.env P) o with
    | some v => match fr.put o.dst v with
      | some f => some (.normal, f)
      | none => none
    | none => none
  | .read => match readOp P (fr.env P) o fr.wk with
    | some v => match fr.put o.dst v with
      | some f => some (.normal, f)
      | none => none
    | none => none
  | .alloc => match allocOp P (fr.env P) o with
    | some (ob, mk) => match ({ fr with wk := { heap := fr.wk.heap.put fr.wk.next (some ob), next := fr.wk.next + 1 } } : Fr).put o.dst (mk fr.wk.next) with
      | some f => some (.normal, f)
      | none => none
    | none => none
  | .eff => chk fr (effOp P ev rnd o fr)

def opsS (P : Program) (ev : Ev) (rnd : Option Nat) (ops : Array Oper) : List Nat → Fr → Option (Ex × Fr)
  | [], fr => some (.normal, fr)
  | i :: rest, fr => match ops[i]? with
    | none => none
    | some o => match wantedS ops o fr with
      | some true => match operS P ev rnd o fr with
        | some (.normal, fr) => opsS P ev rnd ops rest fr
        | r => r
      | some false => match fr.put o.dst undef with
        | some fr => opsS P ev rnd ops rest fr
        | none => none
      | none => none

end Go.Sh
