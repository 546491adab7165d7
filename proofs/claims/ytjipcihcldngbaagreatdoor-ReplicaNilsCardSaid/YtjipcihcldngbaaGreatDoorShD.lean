/- Shadow evaluation, 4: regions that draw their order; code; calls. -/
import Derived.Test.YtjipcihcldngbaaGreatDoorShC
namespace Go.Sh

/-- Are two values the same term? -/
def veqN : Nat → Value → Value → Bool
  | 0, _, _ => false
  | _ + 1, .bool a, .bool b => a == b
  | _ + 1, .int j a, .int k b => j == k && a == b
  | _ + 1, .string a, .string b => a.data.toList == b.data.toList
  | _ + 1, .pointer none, .pointer none => true
  | _ + 1, .pointer (some ⟨i, o, none⟩), .pointer (some ⟨j, p, none⟩) => Nat.beq i j && Nat.beq o p
  | _ + 1, .slice none n c, .slice none m d => Nat.beq n m && Nat.beq c d
  | _ + 1, .slice (some ⟨i, o, none⟩) n c, .slice (some ⟨j, p, none⟩) m d => Nat.beq i j && Nat.beq o p && Nat.beq n m && Nat.beq c d
  | _ + 1, .map none, .map none => true
  | _ + 1, .map (some i), .map (some j) => Nat.beq i j
  | _ + 1, .nilFunc, .nilFunc => true
  | _ + 1, .nilIface, .nilIface => true
  | n + 1, .func (.func f) a b, .func (.func g) c d => Nat.beq f g && all2 (veqN n) a.toList c.toList && all2 (veqN n) b.toList d.toList
  | n + 1, .iface t v, .iface u w => Nat.beq t u && veqN n v w
  | n + 1, .agg a, .agg b => all2 (veqN n) a.toList b.toList
  | n + 1, .tuple a, .tuple b => all2 (veqN n) a.toList b.toList
  | _, _, _ => false
where
  all2 (f : Value → Value → Bool) : List Value → List Value → Bool
    | [], [] => true
    | a :: l, b :: m => f a b && all2 f l m
    | _, _ => false
def veq (a b : Value) : Bool := veqN 12 a b

/-- The operations that must be carried out ahead of each, as bits. -/
def befGo : List Oper → Array Nat → Array Nat
  | [], acc => acc
  | o :: r, acc => befGo r (acc.push (o.after.toList.foldl (fun s e => bif Region.binds .any e then s ||| (2 ^ e.on) ||| acc.getD e.on 0 else s) 0))
def befs (ops : Array Oper) : Tr Nat := Tr.ofList (befGo ops.toList #[]).toList

def bit (m i : Nat) : Bool := Nat.beq ((m >>> i) % 2) 1

def isHeap (P : Program) (o : Oper) : Bool := match cls P o with | .alloc | .eff => true | _ => false
def isEff (P : Program) (o : Oper) : Bool := match cls P o with | .eff => true | _ => false

/-- May i and j be carried out in either order, as far as temporaries go? They are unordered. -/
def apartS (ops : Array Oper) (oi oj : Oper) : Bool :=
  (match oi.dst with | some d => !(oj.looksAt ops).contains d && (match oj.dst with | some x => !(Nat.beq x d) | none => true) | none => true) &&
  (match oj.dst with | some d => !(oi.looksAt ops).contains d | none => true)

/-- What is asked of i < j. -/
def pairOk (P : Program) (ops : Array Oper) (b : Tr Nat) (i : Nat) (oi : Oper) (j : Nat) (oj : Oper) : Bool :=
  (match oi.dst, oj.dst with | some d, some x => !(Nat.beq x d) | _, _ => true) &&
  (bit ((b.get j).getD 0) i || (apartS ops oi oj && !(isHeap P oi && isEff P oj)))

def pairsFrom (P : Program) (ops : Array Oper) (b : Tr Nat) (i : Nat) (oi : Oper) : List Oper → Nat → Bool
  | [], _ => true
  | oj :: r, j => pairOk P ops b i oi j oj && pairsFrom P ops b i oi r (j + 1)
def pairsAll (P : Program) (ops : Array Oper) (b : Tr Nat) : List Oper → Nat → Bool
  | [], _ => true
  | oi :: r, i => pairsFrom P ops b i oi r (i + 1) && pairsAll P ops b r (i + 1)
def edgesBack : List Oper → Nat → Bool
  | [], _ => true
  | o :: r, i => o.after.toList.all (fun e => !(Region.binds .any e) || Nat.blt e.on i) && edgesBack r (i + 1)
def regOk (P : Program) (ops : Array Oper) : Bool :=
  edgesBack ops.toList 0 && pairsAll P ops (befs ops) ops.toList 0 && ops.toList.all (fun o => match o.op with | .select .. => false | _ => true)

/-- An operation of a region that draws its order, as the text's order meets it. -/
inductive Kd where
  | off | pure | read | alloc (ob : SObj) (mk : Nat → Value) | eff | pan (ch : List PanicEntry) | blk
structure En where
  o : Oper
  k : Kd
  fr : Fr
  v : Value
  fr' : Fr

/-- The temporaries that an operation looks at. -/
def restr : List Tmp → Tr Value → Tr Value
  | [], _ => .lf
  | t :: l, tm => (restr l tm).put t (tm.get t)
def Fr.at (fr : Fr) (ops : Array Oper) (o : Oper) : Fr := { fr with tm := restr (o.looksAt ops) fr.tm }

def blockedS (b : Tr Nat) (i : Nat) : Option Nat → Bool
  | some p => bit ((b.get i).getD 0) p
  | none => false

def trace (P : Program) (ev : Ev) (rnd : Option Nat) (ops : Array Oper) (b : Tr Nat) : List Oper → Nat → Fr → SW → Option Nat → Option (List En)
  | [], _, _, _, _ => some []
  | o :: rest, i, fr, hp, pan =>
    let frR := fr.at ops o
    bif blockedS b i pan then
      match trace P ev rnd ops b rest (i + 1) fr hp pan with
      | some T => some (⟨o, .blk, fr, undef, fr⟩ :: T)
      | none => none
    else match wantedS ops o frR with
    | none => none
    | some false => match fr.put o.dst undef with
      | none => none
      | some f => match trace P ev rnd ops b rest (i + 1) f hp pan with
        | some T => some (⟨o, .off, fr, undef, f⟩ :: T)
        | none => none
    | some true => match cls P o with
      | .pure => match pureOp P (frR.env P) o with
        | none => none
        | some v => match fr.put o.dst v with
          | none => none
          | some f => match trace P ev rnd ops b rest (i + 1) f hp pan with
            | some T => some (⟨o, .pure, fr, v, f⟩ :: T)
            | none => none
      | .read => match readOp P (frR.env P) o hp with
        | none => none
        | some v => match fr.put o.dst v with
          | none => none
          | some f => match trace P ev rnd ops b rest (i + 1) f hp pan with
            | some T => some (⟨o, .read, fr, v, f⟩ :: T)
            | none => none
      | .alloc => match pan, allocOp P (frR.env P) o with
        | none, some (ob, mk) => match ({ fr with wk := { heap := fr.wk.heap.put fr.wk.next (some ob), next := fr.wk.next + 1 } } : Fr).put o.dst (mk fr.wk.next) with
          | none => none
          | some f => match trace P ev rnd ops b rest (i + 1) f f.wk pan with
            | some T => some (⟨o, .alloc ob mk, fr, mk fr.wk.next, f⟩ :: T)
            | none => none
        | _, _ => none
      | .eff => match pan, chk frR (effOp P ev rnd o frR) with
        | none, some (.normal, f) => match (match o.dst with | some d => f.tm.get d | none => some undef) with
          | none => none
          | some v => match ({ f with tm := fr.tm, n := fr.n } : Fr).put o.dst v with
            | none => none
            | some f' => match trace P ev rnd ops b rest (i + 1) f' f'.wk none with
              | some T => some (⟨o, .eff, fr, v, f'⟩ :: T)
              | none => none
        | none, some (.panic ch, f) => match trace P ev rnd ops b rest (i + 1) { f with tm := fr.tm, n := fr.n } fr.wk (some i) with
          | some T => some (⟨o, .pan ch, fr, undef, { f with tm := fr.tm, n := fr.n }⟩ :: T)
          | none => none
        | _, _ => none

/-- The effects' places. -/
def effsOf : List En → Nat → List Nat
  | [], _ => []
  | x :: T, i => match x.k with
    | .eff | .pan _ => i :: effsOf T (i + 1)
    | _ => effsOf T (i + 1)
/-- The heaps at which something may be carried out, each with the operation that is to come. -/
def stagesOf : List En → Nat → SW → List (Nat × SW)
  | [], i, h => [(i, h)]
  | x :: T, i, h => match x.k with
    | .alloc _ _ | .eff => (i, x.fr.wk) :: stagesOf T (i + 1) h
    | .pan _ => [(i, x.fr.wk)]
    | _ => stagesOf T (i + 1) h

def may (b : Tr Nat) (i m : Nat) : List Nat → Bool
  | [] => true
  | f :: l => (!(bit ((b.get i).getD 0) f) || Nat.blt f m) && (!(bit ((b.get f).getD 0) i) || Nat.ble m f) && may b i m l

def readAll (P : Program) (b : Tr Nat) (effs : List Nat) (i : Nat) (o : Oper) (e : Env) (v : Value) : List (Nat × SW) → Bool
  | [] => true
  | (m, h) :: l => (!(may b i m effs) || (match readOp P e o h with | some u => veq u v | none => false)) && readAll P b effs i o e v l

def stable (P : Program) (ops : Array Oper) (b : Tr Nat) (effs : List Nat) (st : List (Nat × SW)) : List En → Nat → Bool
  | [], _ => true
  | x :: T, i => (match x.k with
    | .read => readAll P b effs i x.o ((x.fr.at ops x.o).env P) x.v st
    | _ => true) && stable P ops b effs st T (i + 1)

def lastFr (fr : Fr) : List En → Fr
  | [] => fr
  | x :: T => lastFr x.fr' T
def panOf : List En → Option (List PanicEntry × Fr)
  | [] => none
  | x :: T => match x.k with
    | .pan ch => some (ch, x.fr')
    | _ => panOf T

def erase : List Oper → Tr Value → Tr Value
  | [], tm => tm
  | o :: l, tm => match o.dst with
    | some d => (erase l tm).put d none
    | none => erase l tm

def drawnS (P : Program) (ev : Ev) (rnd : Option Nat) (ops : Array Oper) (fr : Fr) : Option (Ex × Fr) :=
  bif regOk P ops then
    match trace P ev rnd ops (befs ops) ops.toList 0 fr fr.wk none with
    | some T =>
      bif stable P ops (befs ops) (effsOf T 0) (stagesOf T 0 (lastFr fr T).wk) T 0 then
        match panOf T with
        | none => some (.normal, lastFr fr T)
        | some (ch, f) => some (.panic ch, { f with tm := erase ops.toList f.tm })
      else none
    | none => none
  else none

/-! ### Code -/
def bodied (P : Program) (g : Nat) : Bool := match fnAt P g with | some fn => fn.body.isSome | none => false
def codeS (P : Program) (ev : Ev) (rnd : Option Nat) (fn : Nat) (c : Code) (fr : Fr) : Option (Ex × Fr) :=
  match c with
  | .skip | .label _ => some (.normal, fr)
  | .seq a b => match ev.code rnd fn a fr with
    | some (.normal, fr) => ev.code rnd fn b fr
    | r => r
  | .cond x a b => match fr.env P x with
    | some (.bool true) => ev.code rnd fn a fr
    | some (.bool false) => ev.code rnd fn b fr
    | _ => none
  | .block id b => match ev.code rnd fn b fr with
    | some (.exit j, fr) => some (bif Nat.beq j id then .normal else .exit j, fr)
    | r => r
  | .loop b => match ev.code rnd fn b fr with
    | some (.normal, fr) => ev.code rnd fn (.loop b) fr
    | r => r
  | .scope b => ev.code rnd fn b fr
  | .exit id => some (.exit id, fr)
  | .ret => some (.ret, fr)
  | .region _ ops false => opsS P ev rnd ops (List.range ops.size) fr
  | .region _ ops true => drawnS P ev rnd ops fr
  | .rangeFunc f params assign body =>
    match rnd, fr.env P f with
    | none, some (.func (.func g) a b) =>
      let d := fr.wk.next
      let l := d + 1
      let σ : SW := { heap := (fr.wk.heap.put d (some .dfr)).put l (some (.loop .ready none fn fr.tm fr.n params.toList assign body d)), next := d + 2 }
      bif bodied P g then match ev.call g (a.toList ++ [.func (.yield l) #[] #[]] ++ b.toList) none σ with
      | some ⟨.ret _, _, σ1⟩ => match σ1.heap.get l with
        | some (.loop st pend fn' tm' n' ps' as' bo' d') =>
          match st with
          | .busy => none
          | _ =>
          let fr1 : Fr := { fr with wk := { σ1 with heap := σ1.heap.put l (some (.loop .exhausted pend fn' tm' n' ps' as' bo' d')) }, defers := { target := .collected d, args := #[] } :: fr.defers }
          (match pend with
          | none => some (.normal, fr1)
          | some .ret => some (.ret, fr1)
          | some (.exit id) => some (.exit id, fr1)
          | _ => none)
        | _ => none
      | some ⟨.pan ch, _, σ1⟩ => some (.panic ch, { fr with wk := σ1, defers := { target := .collected d, args := #[] } :: fr.defers })
      | none => none
      else none
    | _, _ => none
  | _ => none

def resultS (P : Program) (fr : Fr) : ResultVar → Option Value
  | .tmp t => fr.tm.get t
  | .cell a t => match fr.tm.get a with
    | some (.pointer (some ⟨i, off, none⟩)) => match cellsS fr.wk i with
      | some c => valAt P t c off
      | none => none
    | _ => none
def resultsS (P : Program) (fr : Fr) : List ResultVar → Option (List Value)
  | [] => some []
  | r :: l => match resultS P fr r, resultsS P fr l with
    | some v, some vs => some (v :: vs)
    | _, _ => none

/-- The frame goes: its deferred calls. ch: how it panics. -/
def unwS (P : Program) (ev : Ev) (f : Nat) (ch : Option (List PanicEntry)) (fr : Fr) : Option CR :=
  match fr.defers with
  | { target := .collected d, .. } :: ds => match fr.wk.heap.get d with
    | some .dfr => bif Nat.ble P.globals.size d then ev.unw f ch { fr with defers := ds, wk := { fr.wk with heap := fr.wk.heap.put d none } } else none
    | _ => none
  | { target := .fn (.func g) _, args } :: ds =>
    bif bodied P g then match ev.call g args.toList ch fr.wk with
    | some ⟨.ret _, pc, σ⟩ => match ch, pc with
      | none, none => ev.unw f none { fr with defers := ds, wk := σ }
      | some _, some (x :: older) => bif x.recovered then (bif older.all (fun y => !y.goexit) then ev.unw f none { fr with defers := ds, wk := σ } else none)
          else ev.unw f (some (x :: older)) { fr with defers := ds, wk := σ }
      | _, _ => none
    | _ => none
    else none
  | _ :: _ => none
  | [] => match fnAt P f with
    | none => none
    | some fn => match ch with
      | some c => some ⟨.pan c, fr.pc, fr.wk⟩
      | none => match resultsS P fr fn.results.toList with
        | some [v] => some ⟨.ret v, fr.pc, fr.wk⟩
        | some vs => some ⟨.ret (.tuple ⟨vs⟩), fr.pc, fr.wk⟩
        | none => none

def callS (P : Program) (ev : Ev) (f : Nat) (args : List Value) (pc : Option (List PanicEntry)) (σ : SW) : Option CR :=
  match fnAt P f with
  | some fn => match fn.body with
    | some c => match ev.code none f c { tm := Tr.ofList args, n := fn.ntmps, defers := [], pc := pc, wk := σ } with
      | some (.normal, fr) | some (.ret, fr) => ev.unw f none fr
      | some (.panic ch, fr) => ev.unw f (some ch) fr
      | _ => none
    | none => none
  | none => none

def evB : Ev := ⟨fun _ _ _ _ => none, fun _ _ _ _ => none, fun _ _ _ => none⟩
def chkC (n : Nat) (r : Option CR) : Option CR :=
  match r with
  | some x => bif Nat.ble n x.w.next then some x else none
  | none => none
def stepE (P : Program) (ev : Ev) : Ev := ⟨fun rnd fn c fr => chk fr (codeS P ev rnd fn c fr), fun f args pc σ => chkC σ.next (callS P ev f args pc σ), fun f ch fr => chkC fr.wk.next (unwS P ev f ch fr)⟩
def ev (P : Program) (n : Nat) : Ev := Nat.rec evB (fun _ e => stepE P e) n

end Go.Sh
