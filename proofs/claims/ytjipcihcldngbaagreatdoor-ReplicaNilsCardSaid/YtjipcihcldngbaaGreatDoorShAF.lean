/- Shadow evaluation, 32: small arms: memory, effects. -/
import Derived.Test.YtjipcihcldngbaaGreatDoorShAE
namespace Go.Sh
variable {P : Program}

def fLoad (P : Program) (t : TypeId) (σ : SW) : Option Value → Option Value
  | some (.pointer (some ⟨i, off, none⟩)) => match cellsS σ i with
      | some c => valAt P t c off
      | none => none
  | _ => none
def fLookup (P : Program) (t : TypeId) (ok : Bool) (σ : SW) : Option Value → Option Value → Option Value
  | some (.map none), some kv => bif plain kv then lookupS P t [] kv ok else none
  | some (.map (some i)), some kv => match σ.heap.get i with
      | some (.map es _) => bif plain kv then lookupS P t es kv ok else none
      | _ => none
  | _, _ => none
def fLen1 (P : Program) (e : Env) (o : Oper) (σ : SW) (args : List Operand) (argTypes : List TypeId) : Option Value :=
  match args, argTypes with
    | [x], [t] => match e x, und P t with
      | some (.slice (some _) n _), some (.slice _) => some (.int .i64 n)
      | some (.map (some i)), some (.map _ _) => match σ.heap.get i with
        | some (.map es _) => some (.int .i64 es.length)
        | _ => none
      | some _, some _ => plainOp P e o
      | _, _ => none
    | _, _ => none
def fLen (P : Program) (e : Env) (o : Oper) (c : Call) (σ : SW) : Option Value :=
  match c.callee with
  | .builtin .len => fLen1 P e o σ c.args.toList c.argTypes.toList
  | _ => plainOp P e o
def fEntry (σ : SW) : Option Value → Option Value
  | some (.pointer (some ⟨i, 0, none⟩)) => match σ.heap.get i with
      | some (.miter (some m) _ seen st) => match seen.getLast?, σ.heap.get m with
        | some b, some (.map es clock) => bif Nat.beq clock st then (match es.find? (fun x => Nat.beq x.2.2 b) with
          | some x => some (.tuple ⟨[x.1, x.2.1]⟩)
          | none => none) else none
        | _, _ => none
      | _ => none
  | _ => none
def fConvR (P : Program) (e : Env) (o : Oper) (σ : SW) : Option Value → Option TypeDesc → Option TypeDesc → Option Value
  | some (.slice (some ⟨i, off, none⟩) n _), some (.slice el), some .string => bytesS P σ el i off n
  | _, _, _ => pureF P e o
def readF (P : Program) (e : Env) (o : Oper) (σ : SW) : Option Value :=
  match o.op with
  | .load t x => fLoad P t σ (e x)
  | .lookup t x k ok => fLookup P t ok σ (e x) (e k)
  | .call c => fLen P e o c σ
  | .convert s d x => fConvR P e o σ (e x) (und P s) (und P d)
  | .entry x => fEntry σ (e x)
  | _ => pureF P e o

theorem readF_eq (e : Env) (o : Oper) (σ : SW) : readF P e o σ = readOp P e o σ := by
  obtain ⟨dst, op, ty, pos, after, guard⟩ := o
  cases op with
  | load t x =>
    simp only [readF, readOp]
    cases e x with
    | none => rfl
    | some v => cases v with
      | pointer a => cases a with
        | none => rfl
        | some a =>
          obtain ⟨i, off, u⟩ := a
          cases u <;> rfl
      | _ => rfl
  | lookup t x k ok =>
    simp only [readF, readOp]
    cases e x with
    | none => rfl
    | some v => cases v with
      | map r => cases r <;> cases e k <;> rfl
      | _ => cases e k <;> rfl
  | call c =>
    obtain ⟨callee, args, argTypes⟩ := c
    cases callee with
    | builtin b => cases b <;> first | rfl | (simp only [readF, readOp, fLen, pureOp])
    | _ => rfl
  | convert s d x =>
    simp only [readF, readOp, ← pureF_eq]
    cases e x with
    | none => rfl
    | some v => cases v with
      | slice a n c => cases a with
        | none => rfl
        | some a =>
          obtain ⟨i, off, u⟩ := a
          cases u with
          | some u => rfl
          | none =>
            cases und P s with
            | none => rfl
            | some sd => cases sd <;> (cases und P d with
              | none => rfl
              | some dd => cases dd <;> rfl)
      | _ => rfl
  | entry x =>
    simp only [readF, readOp]
    cases e x with
    | none => rfl
    | some v => cases v with
      | pointer a => cases a with
        | none => rfl
        | some a =>
          obtain ⟨i, off, u⟩ := a
          cases u <;> cases off <;> rfl
      | _ => rfl
  | _ => simp only [readF, readOp, pureF_eq]

def fBox (t : TypeId) : Option Value → Option (SObj × (Nat → Value))
  | some v => some (.cells v.cells.toList t, fun i => .pointer (some ⟨i, 0, none⟩))
  | none => none
def fAlloc (t : TypeId) : Option (List Value) → Option (SObj × (Nat → Value))
  | some z => some (.cells z t, fun i => .pointer (some ⟨i, 0, none⟩))
  | none => none
def fMakeMap (P : Program) (e : Env) (t : TypeId) : Option Operand → Option (SObj × (Nat → Value))
  | none => some (.map [] 0, fun i => .map (some i))
  | some x => match e x, und P t with
      | some (.int _ _), some (.map _ _) => some (.map [] 0, fun i => .map (some i))
      | _, _ => none
def fBuildSlice (P : Program) (e : Env) (t : TypeId) (len : Nat) (parts : Array (Nat × Operand)) : Option (SObj × (Nat → Value)) :=
  match und P t with
    | some (.slice el) => match zeroC P el, inf P el, evParts e parts.toList with
      | some z, some ei, some l =>
        bif Nat.ble (len * ei.size) 16777216 && Nat.blt len CAPY then
          (fillS (fun k => some (k * ei.size, ei.size)) l ((List.range (len * ei.size)).map fun k => z.getD (k % z.length) undef)).map
            fun c => (.cells c el, fun i => .slice (some ⟨i, 0, none⟩) len len)
        else none
      | _, _, _ => none
    | _ => none
def allocF (P : Program) (e : Env) (o : Oper) : Option (SObj × (Nat → Value)) :=
  match o.op with
  | .alloc t => fAlloc t (zeroC P t)
  | .box t x => fBox t (e x)
  | .makeMap t r => fMakeMap P e t r
  | .buildSlice t len parts => fBuildSlice P e t len parts
  | _ => none
theorem allocF_eq (e : Env) (o : Oper) : allocF P e o = allocOp P e o := by
  obtain ⟨dst, op, ty, pos, after, guard⟩ := o
  cases op with
  | alloc t => simp only [allocF, allocOp]; cases zeroC P t <;> rfl
  | box t x => simp only [allocF, allocOp]; cases e x <;> rfl
  | makeMap t r => cases r <;> rfl
  | _ => rfl

/-! ### Effects -/
def eFin (o : Oper) (fr : Fr) (v : Value) (σ : SW) : Option (Ex × Fr) :=
  match ({ fr with wk := σ } : Fr).put o.dst v with
    | some f => some (.normal, f)
    | none => none
def eFinO (o : Oper) (fr : Fr) : Option (Value × SW) → Option (Ex × Fr)
  | some (v, σ) => eFin o fr v σ
  | none => none
def eFinU (o : Oper) (fr : Fr) : Option SW → Option (Ex × Fr)
  | some σ => eFin o fr undef σ
  | none => none
def eStore (P : Program) (o : Oper) (fr : Fr) (t : TypeId) : Option Value → Option Value → Option (Ex × Fr)
  | some (.pointer (some ⟨i, off, none⟩)), some u => eFinU o fr (storeS P fr.wk t i off u)
  | _, _ => none
def eUpd (P : Program) (o : Oper) (fr : Fr) (t : TypeId) : Option Value → Option Value → Option Value → Option (Ex × Fr)
  | some (.map (some i)), some kv, some u => eFinU o fr (mapUpdateS P t i kv u fr.wk)
  | _, _, _ => none
def eRange (P : Program) (o : Oper) (fr : Fr) (t : TypeId) : Option Value → Option (Ex × Fr)
  | some v => match rangeS P t v fr.wk with
      | some ob => eFin o fr (.pointer (some ⟨fr.wk.next, 0, none⟩)) { heap := fr.wk.heap.put fr.wk.next (some ob), next := fr.wk.next + 1 }
      | none => none
  | none => none
def eNext (P : Program) (o : Oper) (fr : Fr) (s : Bool) : Option Value → Option (Ex × Fr)
  | some (.pointer (some ⟨i, 0, none⟩)) => bif Nat.ble P.globals.size i then eFinO o fr (nextS i s fr.wk) else none
  | _ => none
def ePanic (fr : Fr) : Option Value → Option (Ex × Fr)
  | some (.iface t v) => some (.panic [{ v := .iface t v, recovered := false }], fr)
  | _ => none
def eDefer (P : Program) (rnd : Option Nat) (o : Oper) (c : Call) (fr : Fr) : Option (Ex × Fr) :=
  match rnd, c.callee, target P (fr.env P) c with
    | none, .value _, some (.enter f args) => match ({ fr with defers := { target := .fn (.func f) #[], args := ⟨args⟩ } :: fr.defers } : Fr).put o.dst undef with
      | some f => some (.normal, f)
      | none => none
    | _, _, _ => none
def eAppend (P : Program) (o : Oper) (e : Env) (args : List Operand) (argTypes : List TypeId) (fr : Fr) : Option (Ex × Fr) :=
  match args, argTypes with
    | [s, x], [t, tx] => match e s, e x with
      | some sv, some xv => eFinO o fr (appendX P t tx sv xv fr.wk)
      | _, _ => none
    | _, _ => none
def eConv (P : Program) (o : Oper) (fr : Fr) (s d : TypeId) : Option Value → Option TypeDesc → Option TypeDesc → Option (Ex × Fr)
  | some (.string b), some .string, some (.slice el) => eFinO o fr (toBytesS P el b fr.wk)
  | some (.slice (some ⟨i, off, none⟩) n c), some (.slice _), some (.slice el) => bif Nat.beq s d && isU8 (und P el) && (Nat.ble P.globals.size i && (cellsS fr.wk i).isSome) then eFin o fr (.slice (some ⟨i, off, none⟩) n c) fr.wk else none
  | _, _, _ => match plainOp P (fr.env P) o with
      | some v => eFin o fr v fr.wk
      | none => none
def eDelete1 (P : Program) (o : Oper) (fr : Fr) (t : TypeId) : Option Value → Option Value → Option (Ex × Fr)
  | some (.map (some i)), some kv => eFinU o fr (deleteS P t i kv fr.wk)
  | _, _ => none
def eDelete (P : Program) (o : Oper) (e : Env) (args : List Operand) (argTypes : List TypeId) (fr : Fr) : Option (Ex × Fr) :=
  match args, argTypes with
    | [m, k], [t, _] => eDelete1 P o fr t (e m) (e k)
    | _, _ => none
def eRecover (rnd : Option Nat) (o : Oper) (fr : Fr) : Option (Ex × Fr) :=
  match rnd, fr.pc with
    | none, some ({ v, recovered := false, goexit := false } :: older) => match ({ fr with pc := some ({ v, recovered := true } :: older) } : Fr).put o.dst v with
      | some f => some (.normal, f)
      | none => none
    | none, none => eFin o fr .nilIface fr.wk
    | _, _ => none
def eRet (o : Oper) (fr : Fr) : Option CR → Option (Ex × Fr)
  | some ⟨.ret v, _, σ⟩ => eFin o fr v σ
  | some ⟨.pan ch, _, σ⟩ => some (.panic ch, { fr with wk := σ })
  | none => none
def ePlain (o : Oper) (fr : Fr) : Option Value → Option (Ex × Fr)
  | some v => eFin o fr v fr.wk
  | none => none
def eEnter (P : Program) (ev : Ev) (o : Oper) (fr : Fr) (f : Nat) (args : List Value) : Option Bool → Option (Ex × Fr)
  | some true => eRet o fr (ev.call f args none fr.wk)
  | some false => ePlain o fr (plainOp P (fr.env P) o)
  | none => none
def eRound (P : Program) (ev : Ev) (o : Oper) (fr : Fr) (l : Nat) (args : List Value) : Option (Ex × Fr) :=
  let fin (v : Value) (σ : SW) : Option (Ex × Fr) := match ({ fr with wk := σ } : Fr).put o.dst v with
    | some f => some (.normal, f)
    | none => none
  match fr.wk.heap.get l with
      | some (.loop .ready none f tm n params assign body _) =>
        bif !(Nat.beq args.length params.length && Nat.ble P.globals.size l) then none else
        match ev.code (some l) f assign { tm := roundTm n params args tm, n := n, defers := [], pc := none, wk := fr.wk } with
        | some (.normal, fr1) => match fr1.wk.heap.get l with
          | some (.loop .ready none f2 tm2 n2 params2 assign2 body2 d2) =>
            match ev.code (some l) f body { fr1 with wk := { fr1.wk with heap := fr1.wk.heap.put l (some (.loop .busy none f2 tm2 n2 params2 assign2 body2 d2)) } } with
            | some (x, fr2) =>
              (match fr2.wk.heap.get l with
              | some (.loop _ _ f3 tm3 n3 params3 assign3 body3 d3) =>
                (match x with
                | .normal => fin (.bool true) { fr2.wk with heap := fr2.wk.heap.put l (some (.loop .ready none f3 tm3 n3 params3 assign3 body3 d3)) }
                | .ret => fin (.bool false) { fr2.wk with heap := fr2.wk.heap.put l (some (.loop .done (some .ret) f3 tm3 n3 params3 assign3 body3 d3)) }
                | .exit id => fin (.bool false) { fr2.wk with heap := fr2.wk.heap.put l (some (.loop .done (some (.exit id)) f3 tm3 n3 params3 assign3 body3 d3)) }
                | .panic _ => none)
              | _ => none)
            | none => none
          | _ => none
        | _ => none
      | _ => none
def eTarget (P : Program) (ev : Ev) (o : Oper) (fr : Fr) : Option Tgt → Option (Ex × Fr)
  | some (.enter f args) => eEnter P ev o fr f args ((fnAt P f).map (·.body.isSome))
  | some (.round l args) => eRound P ev o fr l args
  | none => none
def eBuiltin (P : Program) (rnd : Option Nat) (o : Oper) (c : Call) (fr : Fr) : Builtin → Option (Ex × Fr)
  | .append => eAppend P o (fr.env P) c.args.toList c.argTypes.toList fr
  | .recover => eRecover rnd o fr
  | .delete => eDelete P o (fr.env P) c.args.toList c.argTypes.toList fr
  | _ => none
def eCall (P : Program) (ev : Ev) (rnd : Option Nat) (o : Oper) (c : Call) (fr : Fr) : Option (Ex × Fr) :=
  match c.callee with
  | .builtin b => eBuiltin P rnd o c fr b
  | _ => eTarget P ev o fr (target P (fr.env P) c)
def effF (P : Program) (ev : Ev) (rnd : Option Nat) (o : Oper) (fr : Fr) : Option (Ex × Fr) :=
  match o.op with
  | .store t x v => eStore P o fr t (fr.env P x) (fr.env P v)
  | .mapUpdate t m k v => eUpd P o fr t (fr.env P m) (fr.env P k) (fr.env P v)
  | .insert t m k v => eUpd P o fr t (fr.env P m) (fr.env P k) (fr.env P v)
  | .range t x => eRange P o fr t (fr.env P x)
  | .next x s => eNext P o fr s (fr.env P x)
  | .panic x => ePanic fr (fr.env P x)
  | .convert s d x => eConv P o fr s d (fr.env P x) (und P s) (und P d)
  | .defer c => eDefer P rnd o c fr
  | .call c => eCall P ev rnd o c fr
  | _ => none

theorem effF_eq (ev : Ev) (rnd : Option Nat) (o : Oper) (fr : Fr) : effF P ev rnd o fr = effOp P ev rnd o fr := by
  obtain ⟨dst, op, ty, pos, after, guard⟩ := o
  cases op with
  | store t x v =>
    simp only [effF, effOp]
    cases fr.env P x with
    | none => rfl
    | some p => cases p with
      | pointer a => cases a with
        | none => cases fr.env P v <;> rfl
        | some a =>
          obtain ⟨i, off, u⟩ := a
          cases u <;> cases fr.env P v <;> first | rfl | (simp only [eStore]; split <;> rename_i h <;> simp only [h] <;> rfl)
      | _ => cases fr.env P v <;> rfl
  | mapUpdate t m k v =>
    simp only [effF, effOp]
    cases fr.env P m with
    | none => rfl
    | some p => cases p with
      | map r => cases r <;> cases fr.env P k <;> cases fr.env P v <;> rfl
      | _ => cases fr.env P k <;> cases fr.env P v <;> rfl
  | insert t m k v =>
    simp only [effF, effOp]
    cases fr.env P m with
    | none => rfl
    | some p => cases p with
      | map r => cases r <;> cases fr.env P k <;> cases fr.env P v <;> rfl
      | _ => cases fr.env P k <;> cases fr.env P v <;> rfl
  | range t x => simp only [effF, effOp]; cases fr.env P x <;> rfl
  | next x s =>
    simp only [effF, effOp]
    cases fr.env P x with
    | none => rfl
    | some p => cases p with
      | pointer a => cases a with
        | none => rfl
        | some a =>
          obtain ⟨i, off, u⟩ := a
          cases u <;> cases off <;> rfl
      | _ => rfl
  | panic x => simp only [effF, effOp]; cases fr.env P x <;> rfl
  | convert s d x =>
    simp only [effF, effOp]
    cases fr.env P x with
    | none => rfl
    | some v => cases v with
      | string b =>
        cases und P s with
        | none => rfl
        | some sd => cases sd <;> (cases und P d with
          | none => rfl
          | some dd => cases dd <;> rfl)
      | slice a n c => cases a with
        | none => rfl
        | some a =>
          obtain ⟨i, off, u⟩ := a
          cases u with
          | some u => rfl
          | none =>
            cases und P s with
            | none => rfl
            | some sd => cases sd <;> (cases und P d with
              | none => rfl
              | some dd => cases dd <;> rfl)
      | _ => rfl
  | defer c => rfl
  | call c =>
    obtain ⟨callee, args, argTypes⟩ := c
    cases callee with
    | builtin b => cases b <;> first | rfl | (simp only [effF, effOp, eCall, eBuiltin]; split <;> first | rfl | (simp only [eDelete1]; split <;> first | rfl | (rename_i h1 h2; simp only [h1, h2]; rfl))) | (simp only [effF, effOp, eCall, eBuiltin, target]; cases evArgs (fr.env P) args.toList <;> rfl)
    | value x =>
      simp only [effF, effOp, eCall]
      cases target P (fr.env P) ⟨.value x, args, argTypes⟩ with
      | none => rfl
      | some g => cases g with
        | enter f as => simp only [eTarget]; cases (fnAt P f).map (·.body.isSome) with
          | none => rfl
          | some b => cases b <;> rfl
        | round l as => rfl
    | invoke x nm =>
      simp only [effF, effOp, eCall]
      cases target P (fr.env P) ⟨.invoke x nm, args, argTypes⟩ with
      | none => rfl
      | some g => cases g with
        | enter f as => simp only [eTarget]; cases (fnAt P f).map (·.body.isSome) with
          | none => rfl
          | some b => cases b <;> rfl
        | round l as => rfl
  | _ => rfl
end Go.Sh
