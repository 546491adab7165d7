/- Shadow evaluation, 31: the same evaluator with small arms (the kernel copies every arm of a match that it meets). -/
import Derived.Test.YtjipcihcldngbaaGreatDoorShAD
import Derived.Laws.Strings
namespace Go.Sh
variable {P : Program} {ρ : Rho} {G : Nat}

/-! ### Pure operations -/
def fPick (e : Env) (c a b : Operand) : Option Value :=
  match e c with
  | some (.bool true) => e a
  | some (.bool false) => e b
  | _ => none
def fExtract (e : Env) (x : Operand) (i : Nat) : Option Value :=
  match e x with
  | some (.tuple vs) => vs.toList[i]?
  | _ => none
def fNilM (P : Program) (name : String) (a b : Array Value) : List Value → Option Value
  | .iface t v :: _ => bif headOk P t v name then some (.func (.method name) a b) else none
  | _ => none
def fNilV (P : Program) : Option Value → Option Value
  | some (.pointer (some a)) => some (.pointer (some a))
  | some (.func (.func f) a b) => some (.func (.func f) a b)
  | some (.func (.method name) a b) => fNilM P name a b a.toList
  | _ => none
def fFieldAddr1 (P : Program) (i off f : Nat) : Option TypeDesc → Option Value
  | some (.struct fields) => match fields.toList[f]? with
      | some fd => match inf P fd.type with
        | some fi => bif Nat.beq fi.size 0 then none else some (.pointer (some ⟨i, off + fd.offset, none⟩))
        | none => none
      | none => none
  | _ => none
def fFieldAddr (P : Program) (s : TypeId) (f : Nat) : Option Value → Option Value
  | some (.pointer (some ⟨i, off, none⟩)) => fFieldAddr1 P i off f (und P s)
  | _ => none
def fIxS (P : Program) (i off n : Nat) (k : Int) (el : TypeId) : Option Value :=
  match inf P el with
  | some ei => bif decide (0 ≤ k) && Nat.blt k.toNat n then some (.pointer (some ⟨i, off + k.toNat * ei.size, none⟩)) else none
  | none => none
def fIndexAddr (P : Program) (e : Env) (t : TypeId) (x ix : Operand) : Option Value :=
  match e x, e ix, und P t with
  | some (.slice (some ⟨i, off, none⟩) n _), some (.int _ k), some (.slice el) => fIxS P i off n k el
  | some (.pointer (some ⟨i, off, none⟩)), some (.int _ k), some (.array n el) => fIxS P i off n k el
  | _, _, _ => none
/-- What meets no memory, as the model has it. -/
def plainV (P : Program) (s : Sem Value) : Option Value :=
  match prun P s with
  | .ok v => bif plain v then some v else none
  | _ => none
def arg1 (e : Env) (x : Operand) : Bool := match e x with | some v => plain v | none => false

def fSlice (P : Program) (e : Env) (o : Oper) (t : TypeId) (x : Operand) (lo hi mx : Option Operand) : Option Value :=
  match e x with
  | some v => match sliceS P t v e lo hi mx with
    | some r => some r
    | none => plainOp P e o
  | none => none
def fMkIface (P : Program) (e : Env) (t : TypeId) (x : Operand) : Option Value :=
  match e x, und P t with
  | some _, some (.interface _) => none
  | some v, some _ => some (.iface t v)
  | _, _ => none
def fMkFunc (P : Program) (e : Env) (o : Oper) (f : Fn) (a b : Array Operand) : Option Value :=
  match f with
  | .func g => match evArgs e a.toList, evArgs e b.toList with
    | some u, some v => some (.func (.func g) ⟨u⟩ ⟨v⟩)
    | _, _ => none
  | .method name => match evArgs e a.toList, evArgs e b.toList with
    | some u, some v => some (.func (.method name) ⟨u⟩ ⟨v⟩)
    | _, _ => none
  | _ => plainOp P e o
def fBuild (P : Program) (e : Env) (t : TypeId) (parts : Array (Nat × Operand)) : Option Value :=
  match evParts e parts.toList with
  | some l => buildS P t l
  | none => none
def fField (P : Program) (e : Env) (t : TypeId) (x : Operand) (f : Nat) : Option Value :=
  match e x, und P t with
  | some (.agg cs), some (.struct fields) => match fields.toList[f]? with
    | some fd => valAt P fd.type cs.toList fd.offset
    | none => none
  | _, _ => none
def fIndex (P : Program) (e : Env) (o : Oper) (t : TypeId) (x ix : Operand) : Option Value :=
  match e x, e ix, und P t with
  | some (.agg cs), some (.int _ k), some (.array n el) => match inf P el with
    | some ei => bif decide (0 ≤ k) && Nat.blt k.toNat n then valAt P el cs.toList (k.toNat * ei.size) else none
    | none => none
  | _, _, _ => plainOp P e o
def fAssert (P : Program) (e : Env) (x : Operand) (asserted : TypeId) (ok : Bool) : Option Value :=
  match e x, und P asserted with
  | some _, some (.interface _) => none
  | some (.iface t v), some _ => bif Nat.beq t asserted then some (bif ok then .tuple ⟨[v, .bool true]⟩ else v) else
      bif ok then (match inf P asserted with
        | some i => match i.zero with
          | some z => bif plain z then some (.tuple ⟨[z, .bool false]⟩) else none
          | none => none
        | none => none) else none
  | _, _ => none
def fBin0 (P : Program) (e : Env) (op : BinOp) (t : TypeId) (x y : Operand) : Option Value :=
  bif arg1 e x && arg1 e y then plainV P (do Go.eqGuard op t x y ((e x).getD undef) ((e y).getD undef); Go.binOp op t ((e x).getD undef) ((e y).getD undef)) else none
def bytesBeq : List UInt8 → List UInt8 → Bool
  | [], [] => true
  | a :: l, b :: m => Nat.beq a.toNat b.toNat && bytesBeq l m
  | _, _ => false
def fInt (P : Program) (op : BinOp) (k : IntKind) (a b : Int) : Option Value :=
  match op with
  | .add => some (.int k (k.wrap (a + b)))
  | .sub => some (.int k (k.wrap (a - b)))
  | .mul => some (.int k (k.wrap (a * b)))
  | .quo => plainV P (Op.intDiv .quo k a b)
  | .rem => plainV P (Op.intDiv .rem k a b)
  | .and => plainV P (Op.intBits .and k a b)
  | .or => plainV P (Op.intBits .or k a b)
  | .xor => plainV P (Op.intBits .xor k a b)
  | .andNot => plainV P (Op.intBits .andNot k a b)
  | .eql => some (.bool (a == b))
  | .neq => some (.bool (a != b))
  | .lss => some (.bool (decide (a < b)))
  | .leq => some (.bool (decide (a ≤ b)))
  | .gtr => some (.bool (decide (a > b)))
  | .geq => some (.bool (decide (a ≥ b)))
  | .shl => plainV P (Op.shift .shl k a k b)
  | .shr => plainV P (Op.shift .shr k a k b)
def fStr (P : Program) (op : BinOp) (a b : ByteArray) : Option Value :=
  match op with
  | .eql => some (.bool (bytesBeq a.data.toList b.data.toList))
  | .neq => some (.bool (!bytesBeq a.data.toList b.data.toList))
  | op => plainV P (Op.stringOp op a b)
def fBinK (P : Program) (e : Env) (op : BinOp) (t : TypeId) (x y : Operand) (k : IntKind) (a b : Int) : Bool → Option Value
  | true => fInt P op k a b
  | false => fBin0 P e op t x y
def fBin2 (P : Program) (e : Env) (op : BinOp) (t : TypeId) (x y : Operand) : Option Value :=
  match e x, e y with
  | some (.int k a), some (.int k' b) => fBinK P e op t x y k a b (decide (k = k'))
  | some (.string a), some (.string b) => fStr P op a b
  | _, _ => fBin0 P e op t x y
theorem bytesBeq_eq : ∀ a b : List UInt8, bytesBeq a b = (a == b) := by
  intro a
  induction a with
  | nil => intro b; cases b <;> rfl
  | cons x l ih =>
    intro b
    cases b with
    | nil => rfl
    | cons y m =>
      simp only [bytesBeq, ih, List.cons_beq_cons]
      congr 1
      by_cases h : x = y
      · subst h; simp
      · have h1 : Nat.beq x.toNat y.toNat = false := by
          rw [Bool.eq_false_iff]; intro hh; exact h (UInt8.toNat_inj.1 (Nat.eq_of_beq_eq_true hh))
        rw [h1]; exact (beq_eq_false_iff_ne.2 h).symm
def fBin (P : Program) (e : Env) (op : BinOp) (t : TypeId) (x y : Operand) : Option Value :=
  match op with
  | .eql => match e x, e y with
    | some a, some b => bif nilCmp P t a b then some (.bool false) else fBin2 P e op t x y
    | _, _ => none
  | .neq => match e x, e y with
    | some a, some b => bif nilCmp P t a b then some (.bool true) else fBin2 P e op t x y
    | _, _ => none
  | op => fBin2 P e op t x y
def fUn (P : Program) (op : UnOp) : Option Value → Option Value
  | some v => bif plain v then plainV P (Op.unary op v) else none
  | none => none
def fConv (P : Program) (s d : TypeId) : Option Value → Option Value
  | some v => bif plain v then plainV P (Go.convert s d v) else none
  | none => none
def pureF (P : Program) (e : Env) (o : Oper) : Option Value :=
  match o.op with
  | .move x => e x
  | .assign x => e x
  | .pick c a b => fPick e c a b
  | .extract x i => fExtract e x i
  | .nilCheck x => fNilV P (e x)
  | .fieldAddr s x f => fFieldAddr P s f (e x)
  | .indexAddr t x ix => fIndexAddr P e t x ix
  | .slice t x lo hi mx => fSlice P e o t x lo hi mx
  | .makeInterface t x => fMkIface P e t x
  | .makeFunc f a b => fMkFunc P e o f a b
  | .build t parts => fBuild P e t parts
  | .field t x f => fField P e t x f
  | .index t x ix => fIndex P e o t x ix
  | .typeAssert x _ asserted ok => fAssert P e x asserted ok
  | .binOp op t x y _ => fBin P e op t x y
  | .unOp op _ x => fUn P op (e x)
  | .convert s d x => fConv P s d (e x)
  | _ => plainOp P e o

theorem plainOp_bin {e : Env} {o : Oper} {op : BinOp} {t ty : TypeId} {x y : Operand} (h : o.op = .binOp op t x y ty) : plainOp P e o = fBin0 P e op t x y := by
  unfold plainOp fBin0 plainV execOp
  rw [h]
  simp only [Op.operands, List.all_cons, List.all_nil, Bool.and_true, arg1]
  rw [prun_bind']
  cases prun P (do Go.eqGuard op t x y ((e x).getD undef) ((e y).getD undef); Go.binOp op t ((e x).getD undef) ((e y).getD undef)) <;> rfl

theorem toList_eq (a : ByteArray) : a.toList = a.data.toList := ByteArray.toList_eq a
theorem bin_int (op : BinOp) (t : TypeId) (x y : Operand) (k : IntKind) (a b : Int) :
    plainV P (do Go.eqGuard op t x y (.int k a) (.int k b); Go.binOp op t (.int k a) (.int k b)) = fInt P op k a b := by
  unfold plainV
  rw [prun_bind']
  cases op <;> simp [Go.eqGuard, Go.binOp, prun, fInt, plainV, Op.intArith, Op.intCmp, plain, plainN, pure]
theorem fBin2_eq (e : Env) (op : BinOp) (t : TypeId) (x y : Operand) : fBin2 P e op t x y = fBin0 P e op t x y := by
  unfold fBin2
  split
  · rename_i k a k' b hx hy
    by_cases hk : k = k'
    · subst hk
      simp only [decide_true, fBinK, fBin0, arg1, hx, hy, Option.getD_some, bin_int]
      rfl
    · rw [decide_eq_false hk]; rfl
  · rename_i a b hx hy
    simp only [fBin0, arg1, hx, hy, Option.getD_some]
    cases op <;> first | rfl | (simp only [fStr, bytesBeq_eq, ← toList_eq]; rfl)
  · rfl

theorem pureF_eq (e : Env) (o : Oper) : pureF P e o = pureOp P e o := by
  obtain ⟨dst, op, ty, pos, after, guard⟩ := o
  cases op with
  | binOp op t x y u =>
    have hb : plainOp P e ⟨dst, .binOp op t x y u, ty, pos, after, guard⟩ = fBin0 P e op t x y := plainOp_bin rfl
    cases op <;> simp only [pureF, pureOp, fBin, hb, fBin2_eq]
    · cases e x <;> cases e y <;> rfl
    · cases e x <;> cases e y <;> rfl
  | nilCheck x =>
    simp only [pureF, pureOp]
    cases hx : e x with
    | none => rfl
    | some v => cases v with
      | pointer a => cases a <;> rfl
      | func f a b => cases f <;> rfl
      | _ => rfl
  | unOp op t x =>
    simp only [pureF, pureOp, plainOp, execOp, Op.operands, List.all_cons, List.all_nil, Bool.and_true]
    rw [prun_bind']
    cases e x with
    | none => rfl
    | some v =>
      simp only [fUn, plainV, Option.getD_some]
      cases plain v with
      | false => rfl
      | true => simp only [cond_true]; cases prun P (Op.unary op v) <;> rfl
  | convert s d x =>
    simp only [pureF, pureOp, plainOp, execOp, Op.operands, List.all_cons, List.all_nil, Bool.and_true]
    rw [prun_bind']
    cases e x with
    | none => rfl
    | some v =>
      simp only [fConv, plainV, Option.getD_some]
      cases plain v with
      | false => rfl
      | true => simp only [cond_true]; cases prun P (Go.convert s d v) <;> rfl
  | makeFunc f a b => cases f <;> rfl
  | fieldAddr s x f =>
    simp only [pureF, pureOp]
    cases hx : e x with
    | none => rfl
    | some v => cases v with
      | pointer a => cases a with
        | none => rfl
        | some a =>
          obtain ⟨i, off, u⟩ := a
          cases u with
          | none => simp only [fFieldAddr]; cases und P s with
            | none => rfl
            | some d => cases d <;> rfl
          | some u => rfl
      | _ => rfl
  | _ => rfl
end Go.Sh
