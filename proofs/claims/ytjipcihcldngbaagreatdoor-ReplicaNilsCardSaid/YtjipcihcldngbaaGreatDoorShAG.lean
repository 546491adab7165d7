/- Shadow evaluation, 33: small arms: regions, code, calls; the same evaluator. -/
import Derived.Test.YtjipcihcldngbaaGreatDoorShAF
namespace Go.Sh
variable {P : Program}

def wGuard (ops : Array Oper) (fr : Fr) (j : Nat) (want : Bool) : Option Bool :=
  match ops[j]? with
    | some oj => match oj.dst with
      | some d => match fr.tm.get d with
        | some (.bool b) => some (b == want)
        | some (.tuple _) => some false
        | _ => none
      | none => none
    | none => none
def wantedF (ops : Array Oper) (o : Oper) (fr : Fr) : Option Bool :=
  match o.guard with
  | none => some true
  | some (j, want) => wGuard ops fr j want
theorem wantedF_eq (ops : Array Oper) (o : Oper) (fr : Fr) : wantedF ops o fr = wantedS ops o fr := by
  unfold wantedF wantedS
  cases o.guard with
  | none => rfl
  | some p => rfl

def putN : Option Fr → Option (Ex × Fr)
  | some f => some (.normal, f)
  | none => none
def finP (fr : Fr) (d : Option Tmp) : Option Value → Option (Ex × Fr)
  | some v => putN (fr.put d v)
  | none => none
def finA (fr : Fr) (d : Option Tmp) : Option (SObj × (Nat → Value)) → Option (Ex × Fr)
  | some (ob, mk) => putN (({ fr with wk := { heap := fr.wk.heap.put fr.wk.next (some ob), next := fr.wk.next + 1 } } : Fr).put d (mk fr.wk.next))
  | none => none
theorem finP_eq (fr : Fr) (d : Option Tmp) (s : Option Value) : finP fr d s = match s with
    | some v => match fr.put d v with
      | some f => some (.normal, f)
      | none => none
    | none => none := by
  cases s with
  | none => rfl
  | some v => simp only [finP]; cases fr.put d v <;> rfl
theorem finA_eq (fr : Fr) (d : Option Tmp) (s : Option (SObj × (Nat → Value))) : finA fr d s = match s with
    | some (ob, mk) => match ({ fr with wk := { heap := fr.wk.heap.put fr.wk.next (some ob), next := fr.wk.next + 1 } } : Fr).put d (mk fr.wk.next) with
      | some f => some (.normal, f)
      | none => none
    | none => none := by
  cases s with
  | none => rfl
  | some p =>
    obtain ⟨ob, mk⟩ := p
    simp only [finA]
    cases ({ fr with wk := { heap := fr.wk.heap.put fr.wk.next (some ob), next := fr.wk.next + 1 } } : Fr).put d (mk fr.wk.next) <;> rfl

def oBuiltin (P : Program) (rnd : Option Nat) (o : Oper) (c : Call) (fr : Fr) : Builtin → Option (Ex × Fr)
  | .len => finP fr o.dst (fLen1 P (fr.env P) o fr.wk c.args.toList c.argTypes.toList)
  | .cap | .min | .max => finP fr o.dst (plainOp P (fr.env P) o)
  | b => chk fr (eBuiltin P rnd o c fr b)
def oCall (P : Program) (ev : Ev) (rnd : Option Nat) (o : Oper) (c : Call) (fr : Fr) : Option (Ex × Fr) :=
  match c.callee with
  | .builtin b => oBuiltin P rnd o c fr b
  | _ => chk fr (eTarget P ev o fr (target P (fr.env P) c))
def oConv (P : Program) (o : Oper) (fr : Fr) (s d : TypeId) (x : Operand) : Cls → Option (Ex × Fr)
  | .eff => chk fr (eConv P o fr s d (fr.env P x) (und P s) (und P d))
  | .read => finP fr o.dst (fConvR P (fr.env P) o fr.wk (fr.env P x) (und P s) (und P d))
  | .pure => finP fr o.dst (fConv P s d (fr.env P x))
  | .alloc => none
def operF (P : Program) (ev : Ev) (rnd : Option Nat) (o : Oper) (fr : Fr) : Option (Ex × Fr) :=
  match o.op with
  | .move x => finP fr o.dst (fr.env P x)
  | .assign x => finP fr o.dst (fr.env P x)
  | .pick c a b => finP fr o.dst (fPick (fr.env P) c a b)
  | .extract x i => finP fr o.dst (fExtract (fr.env P) x i)
  | .nilCheck x => finP fr o.dst (fNilV P (fr.env P x))
  | .fieldAddr s x f => finP fr o.dst (fFieldAddr P s f (fr.env P x))
  | .indexAddr t x ix => finP fr o.dst (fIndexAddr P (fr.env P) t x ix)
  | .slice t x lo hi mx => finP fr o.dst (fSlice P (fr.env P) o t x lo hi mx)
  | .makeInterface t x => finP fr o.dst (fMkIface P (fr.env P) t x)
  | .makeFunc f a b => finP fr o.dst (fMkFunc P (fr.env P) o f a b)
  | .build t parts => finP fr o.dst (fBuild P (fr.env P) t parts)
  | .field t x f => finP fr o.dst (fField P (fr.env P) t x f)
  | .index t x ix => finP fr o.dst (fIndex P (fr.env P) o t x ix)
  | .typeAssert x _ asserted ok => finP fr o.dst (fAssert P (fr.env P) x asserted ok)
  | .binOp op t x y _ => finP fr o.dst (fBin P (fr.env P) op t x y)
  | .unOp op _ x => finP fr o.dst (fUn P op (fr.env P x))
  | .convert s d x => oConv P o fr s d x (clsConv (und P d))
  | .load t x => finP fr o.dst (fLoad P t fr.wk (fr.env P x))
  | .lookup t x k ok => finP fr o.dst (fLookup P t ok fr.wk (fr.env P x) (fr.env P k))
  | .entry x => finP fr o.dst (fEntry fr.wk (fr.env P x))
  | .alloc t => finA fr o.dst (fAlloc t (zeroC P t))
  | .box t x => finA fr o.dst (fBox t (fr.env P x))
  | .makeMap t r => finA fr o.dst (fMakeMap P (fr.env P) t r)
  | .buildSlice t len parts => finA fr o.dst (fBuildSlice P (fr.env P) t len parts)
  | .store t x v => chk fr (eStore P o fr t (fr.env P x) (fr.env P v))
  | .mapUpdate t m k v => chk fr (eUpd P o fr t (fr.env P m) (fr.env P k) (fr.env P v))
  | .insert t m k v => chk fr (eUpd P o fr t (fr.env P m) (fr.env P k) (fr.env P v))
  | .range t x => chk fr (eRange P o fr t (fr.env P x))
  | .next x s => chk fr (eNext P o fr s (fr.env P x))
  | .panic x => chk fr (ePanic fr (fr.env P x))
  | .defer c => chk fr (eDefer P rnd o c fr)
  | .call c => oCall P ev rnd o c fr
  | _ => none
theorem operS_fin (ev : Ev) (rnd : Option Nat) (o : Oper) (fr : Fr) : operS P ev rnd o fr = match cls P o with
    | .pure => finP fr o.dst (pureOp P (fr.env P) o)
    | .read => finP fr o.dst (readOp P (fr.env P) o fr.wk)
    | .alloc => finA fr o.dst (allocOp P (fr.env P) o)
    | .eff => chk fr (effOp P ev rnd o fr) := by
  unfold operS
  cases cls P o with
  | pure => simp only; rw [finP_eq]; cases pureOp P (fr.env P) o <;> rfl
  | read => simp only; rw [finP_eq]; cases readOp P (fr.env P) o fr.wk <;> rfl
  | alloc => simp only; rw [finA_eq]; cases allocOp P (fr.env P) o <;> rfl
  | eff => rfl
theorem operF_eq (ev : Ev) (rnd : Option Nat) (o : Oper) (fr : Fr) : operF P ev rnd o fr = operS P ev rnd o fr := by
  rw [operS_fin, ← pureF_eq, ← readF_eq, ← allocF_eq, ← effF_eq]
  obtain ⟨dst, op, ty, pos, after, guard⟩ := o
  cases op with
  | call c =>
    obtain ⟨callee, args, argTypes⟩ := c
    cases callee with
    | builtin b => cases b <;> rfl
    | value x => rfl
    | invoke x nm => rfl
  | convert s d x =>
    simp only [operF, cls, pureF, readF, allocF, effF]
    cases clsConv (und P d) <;> rfl
  | _ => rfl

def opsN (rest : Fr → Option (Ex × Fr)) : Option (Ex × Fr) → Option (Ex × Fr)
  | some (.normal, fr) => rest fr
  | r => r
def opsW (P : Program) (ev : Ev) (rnd : Option Nat) (o : Oper) (fr : Fr) (rest : Fr → Option (Ex × Fr)) : Option Bool → Option (Ex × Fr)
  | some true => opsN rest (operF P ev rnd o fr)
  | some false => opsN rest (putN (fr.put o.dst undef))
  | none => none
def opsL (P : Program) (ev : Ev) (rnd : Option Nat) (ops : Array Oper) : List Oper → Fr → Option (Ex × Fr)
  | [], fr => some (.normal, fr)
  | o :: rest, fr => opsW P ev rnd o fr (fun fr => opsL P ev rnd ops rest fr) (wantedF ops o fr)
theorem opsL_eq (ev : Ev) (rnd : Option Nat) (ops : Array Oper) : ∀ (l : List Oper) (k : Nat) (fr : Fr), ops.toList.drop k = l →
    opsL P ev rnd ops l fr = opsS P ev rnd ops (List.range' k l.length) fr := by
  intro l
  induction l with
  | nil => intro k fr _; rfl
  | cons o l ih =>
    intro k fr h
    have hk : ops[k]? = some o := by
      rw [← Array.getElem?_toList, ← List.head?_drop, h]; rfl
    have hd : ops.toList.drop (k + 1) = l := by rw [← List.tail_drop, h]; rfl
    simp only [List.length_cons, List.range'_succ, opsL, opsS, hk, wantedF_eq]
    cases wantedS ops o fr with
    | none => rfl
    | some b => cases b with
      | true =>
        simp only [opsW, operF_eq]
        cases operS P ev rnd o fr with
        | none => rfl
        | some p => obtain ⟨x, f⟩ := p; cases x <;> simp only [opsN] <;> exact ih _ _ hd
      | false =>
        simp only [opsW]
        cases fr.put o.dst undef with
        | none => rfl
        | some f => simp only [putN, opsN]; exact ih _ _ hd
theorem opsL_all (ev : Ev) (rnd : Option Nat) (ops : Array Oper) (fr : Fr) : opsL P ev rnd ops ops.toList fr = opsS P ev rnd ops (List.range ops.size) fr := by
  rw [opsL_eq ev rnd ops ops.toList 0 fr (by simp), List.range_eq_range']; simp

/-! ### Drawn regions -/
def tCons (x : En) : Option (List En) → Option (List En)
  | some T => some (x :: T)
  | none => none
@[reducible] def Tk := Fr → SW → Option Nat → Option (List En)
def tVal (o : Oper) (k : Kd) (fr : Fr) (v : Value) (hp : SW) (pan : Option Nat) (K : Tk) : Option Fr → Option (List En)
  | some f => tCons ⟨o, k, fr, v, f⟩ (K f hp pan)
  | none => none
def tV (o : Oper) (k : Kd) (fr : Fr) (hp : SW) (pan : Option Nat) (K : Tk) : Option Value → Option (List En)
  | some v => tVal o k fr v hp pan K (fr.put o.dst v)
  | none => none
def tA1 (o : Oper) (ob : SObj) (mk : Nat → Value) (fr : Fr) (pan : Option Nat) (K : Tk) : Option Fr → Option (List En)
  | some f => tCons ⟨o, .alloc ob mk, fr, mk fr.wk.next, f⟩ (K f f.wk pan)
  | none => none
def tA (o : Oper) (fr : Fr) (pan : Option Nat) (K : Tk) : Option Nat → Option (SObj × (Nat → Value)) → Option (List En)
  | none, some (ob, mk) => tA1 o ob mk fr pan K (({ fr with wk := { heap := fr.wk.heap.put fr.wk.next (some ob), next := fr.wk.next + 1 } } : Fr).put o.dst (mk fr.wk.next))
  | _, _ => none
def tE2 (o : Oper) (fr : Fr) (v : Value) (K : Tk) : Option Fr → Option (List En)
  | some f' => tCons ⟨o, .eff, fr, v, f'⟩ (K f' f'.wk none)
  | none => none
def tE1 (o : Oper) (fr f : Fr) (K : Tk) : Option Value → Option (List En)
  | some v => tE2 o fr v K (({ f with tm := fr.tm, n := fr.n } : Fr).put o.dst v)
  | none => none
def tE (o : Oper) (i : Nat) (fr : Fr) (K : Tk) : Option Nat → Option (Ex × Fr) → Option (List En)
  | none, some (.normal, f) => tE1 o fr f K (match o.dst with | some d => f.tm.get d | none => some undef)
  | none, some (.panic ch, f) => tCons ⟨o, .pan ch, fr, undef, { f with tm := fr.tm, n := fr.n }⟩ (K { f with tm := fr.tm, n := fr.n } fr.wk (some i))
  | _, _ => none
def tDo (P : Program) (ev : Ev) (rnd : Option Nat) (o : Oper) (i : Nat) (fr frR : Fr) (hp : SW) (pan : Option Nat) (K : Tk) : Cls → Option (List En)
  | .pure => tV o .pure fr hp pan K (pureF P (frR.env P) o)
  | .read => tV o .read fr hp pan K (readF P (frR.env P) o hp)
  | .alloc => tA o fr pan K pan (allocF P (frR.env P) o)
  | .eff => tE o i fr K pan (chk frR (effF P ev rnd o frR))
def tWant (P : Program) (ev : Ev) (rnd : Option Nat) (o : Oper) (i : Nat) (fr frR : Fr) (hp : SW) (pan : Option Nat) (K : Tk) : Option Bool → Option (List En)
  | none => none
  | some false => tVal o .off fr undef hp pan K (fr.put o.dst undef)
  | some true => tDo P ev rnd o i fr frR hp pan K (cls P o)
def tStep (P : Program) (ev : Ev) (rnd : Option Nat) (ops : Array Oper) (b : Tr Nat) (o : Oper) (i : Nat) (fr frR : Fr) (hp : SW) (pan : Option Nat) (K : Tk) : Option (List En) :=
  bif blockedS b i pan then tCons ⟨o, .blk, fr, undef, fr⟩ (K fr hp pan)
  else tWant P ev rnd o i fr frR hp pan K (wantedF ops o frR)
def traceF (P : Program) (ev : Ev) (rnd : Option Nat) (ops : Array Oper) (b : Tr Nat) : List Oper → Nat → Fr → SW → Option Nat → Option (List En)
  | [], _, _, _, _ => some []
  | o :: rest, i, fr, hp, pan => tStep P ev rnd ops b o i fr (fr.at ops o) hp pan (fun f h p => traceF P ev rnd ops b rest (i + 1) f h p)
theorem traceF_eq (ev : Ev) (rnd : Option Nat) (ops : Array Oper) (b : Tr Nat) : ∀ (l : List Oper) (i : Nat) (fr : Fr) (hp : SW) (pan : Option Nat),
    traceF P ev rnd ops b l i fr hp pan = trace P ev rnd ops b l i fr hp pan := by
  intro l
  induction l with
  | nil => intros; rfl
  | cons o l ih =>
    intro i fr hp pan
    simp only [traceF, trace, tStep, ih]
    cases blockedS b i pan with
    | true => simp only [cond_true]; cases trace P ev rnd ops b l (i + 1) fr hp pan <;> rfl
    | false =>
      simp only [cond_false, wantedF_eq]
      cases wantedS ops o (fr.at ops o) with
      | none => rfl
      | some w => cases w with
        | false =>
          simp only [tWant]
          cases fr.put o.dst undef with
          | none => rfl
          | some f => simp only [tVal]; cases trace P ev rnd ops b l (i + 1) f hp pan <;> rfl
        | true =>
          simp only [tWant, ← pureF_eq, ← readF_eq, ← allocF_eq, ← effF_eq]
          cases cls P o with
          | pure =>
            simp only [tDo]
            cases pureF P ((fr.at ops o).env P) o with
            | none => rfl
            | some v =>
              simp only [tV]
              cases fr.put o.dst v with
              | none => rfl
              | some f => simp only [tVal]; cases trace P ev rnd ops b l (i + 1) f hp pan <;> rfl
          | read =>
            simp only [tDo]
            cases readF P ((fr.at ops o).env P) o hp with
            | none => rfl
            | some v =>
              simp only [tV]
              cases fr.put o.dst v with
              | none => rfl
              | some f => simp only [tVal]; cases trace P ev rnd ops b l (i + 1) f hp pan <;> rfl
          | alloc =>
            simp only [tDo]
            cases pan with
            | some p => cases allocF P ((fr.at ops o).env P) o <;> rfl
            | none =>
              cases allocF P ((fr.at ops o).env P) o with
              | none => rfl
              | some q =>
                obtain ⟨ob, mk⟩ := q
                simp only [tA]
                cases ({ fr with wk := { heap := fr.wk.heap.put fr.wk.next (some ob), next := fr.wk.next + 1 } } : Fr).put o.dst (mk fr.wk.next) with
                | none => rfl
                | some f => simp only [tA1]; cases trace P ev rnd ops b l (i + 1) f f.wk none <;> rfl
          | eff =>
            simp only [tDo]
            cases pan with
            | some p => cases chk (fr.at ops o) (effF P ev rnd o (fr.at ops o)) <;> rfl
            | none =>
              cases chk (fr.at ops o) (effF P ev rnd o (fr.at ops o)) with
              | none => rfl
              | some q =>
                obtain ⟨x, f⟩ := q
                cases x with
                | normal =>
                  simp only [tE]
                  have key : ∀ g : Option Value, tE1 o fr f (fun f h p => trace P ev rnd ops b l (i + 1) f h p) g = match g with
                      | none => none
                      | some v => match ({ f with tm := fr.tm, n := fr.n } : Fr).put o.dst v with
                        | none => none
                        | some f' => match trace P ev rnd ops b l (i + 1) f' f'.wk none with
                          | some T => some (⟨o, .eff, fr, v, f'⟩ :: T)
                          | none => none := by
                    intro g
                    cases g with
                    | none => rfl
                    | some v =>
                      simp only [tE1]
                      cases ({ f with tm := fr.tm, n := fr.n } : Fr).put o.dst v with
                      | none => rfl
                      | some f' => simp only [tE2]; cases trace P ev rnd ops b l (i + 1) f' f'.wk none <;> rfl
                  rw [key]
                  generalize o.dst = dd
                  cases dd with
                  | none => rfl
                  | some d => rfl
                | panic ch => simp only [tE]; cases trace P ev rnd ops b l (i + 1) { f with tm := fr.tm, n := fr.n } fr.wk (some i) <;> rfl
                | _ => rfl

def dEnd (ops : Array Oper) (fr : Fr) (T : List En) : Option (List PanicEntry × Fr) → Option (Ex × Fr)
  | none => some (.normal, lastFr fr T)
  | some (ch, f) => some (.panic ch, { f with tm := erase ops.toList f.tm })
def dT (P : Program) (ops : Array Oper) (fr : Fr) : Option (List En) → Option (Ex × Fr)
  | some T => bif stable P ops (befs ops) (effsOf T 0) (stagesOf T 0 (lastFr fr T).wk) T 0 then dEnd ops fr T (panOf T) else none
  | none => none
def drawnF (P : Program) (ev : Ev) (rnd : Option Nat) (ops : Array Oper) (fr : Fr) : Option (Ex × Fr) :=
  bif regOk P ops then dT P ops fr (traceF P ev rnd ops (befs ops) ops.toList 0 fr fr.wk none) else none
theorem drawnF_eq (ev : Ev) (rnd : Option Nat) (ops : Array Oper) (fr : Fr) : drawnF P ev rnd ops fr = drawnS P ev rnd ops fr := by
  unfold drawnF drawnS
  cases regOk P ops with
  | false => rfl
  | true =>
    simp only [cond_true, traceF_eq]
    cases trace P ev rnd ops (befs ops) ops.toList 0 fr fr.wk none with
    | none => rfl
    | some T =>
      simp only [dT]
      cases stable P ops (befs ops) (effsOf T 0) (stagesOf T 0 (lastFr fr T).wk) T 0 with
      | false => rfl
      | true => simp only [cond_true]; cases panOf T <;> rfl

/-! ### Code -/
def cThen (ev : Ev) (rnd : Option Nat) (fn : Nat) (b : Code) : Option (Ex × Fr) → Option (Ex × Fr)
  | some (.normal, fr) => ev.code rnd fn b fr
  | r => r
def cCond (ev : Ev) (rnd : Option Nat) (fn : Nat) (a b : Code) (fr : Fr) : Option Value → Option (Ex × Fr)
  | some (.bool true) => ev.code rnd fn a fr
  | some (.bool false) => ev.code rnd fn b fr
  | _ => none
def cBlock (id : Nat) : Option (Ex × Fr) → Option (Ex × Fr)
  | some (.exit j, fr) => some (bif Nat.beq j id then .normal else .exit j, fr)
  | r => r
def cRegion (P : Program) (ev : Ev) (rnd : Option Nat) (ops : Array Oper) (fr : Fr) : Bool → Option (Ex × Fr)
  | false => opsL P ev rnd ops ops.toList fr
  | true => drawnF P ev rnd ops fr
def cRange (P : Program) (ev : Ev) (fn : Nat) (params : Array Tmp) (assign body : Code) (fr : Fr) : Option Nat → Option Value → Option (Ex × Fr)
  | none, some (.func (.func g) a b) =>
      let d := fr.wk.next
      let l := d + 1
      let σ : SW := { heap := (fr.wk.heap.put d (some .dfr)).put l (some (.loop .ready none fn fr.tm fr.n params.toList assign body d)), next := d + 2 }
      bif bodied P g then match ev.call g (a.toList ++ [.func (.yield l) #[] #[]] ++ b.toList) none σ with
      | some ⟨.ret _, _, σ1⟩ => match σ1.heap.get l with
        | some (.loop st pend fn' tm' n' ps' as' bo' d') =>
          match st with
          | .busy => none
          | _ =>
          let fr1 : Fr := { fr with wk := { σ1 with heap := σ1.heap.put l (some (.loop .exhausted pend fn' tm' n' ps' as' bo' d')) }, defers := { target := .collected d, args := #[] } :: fr.defers }
          (match pend with
          | none => some (.normal, fr1)
          | some .ret => some (.ret, fr1)
          | some (.exit id) => some (.exit id, fr1)
          | _ => none)
        | _ => none
      | some ⟨.pan ch, _, σ1⟩ => some (.panic ch, { fr with wk := σ1, defers := { target := .collected d, args := #[] } :: fr.defers })
      | none => none
      else none
  | _, _ => none
def codeF (P : Program) (ev : Ev) (rnd : Option Nat) (fn : Nat) (c : Code) (fr : Fr) : Option (Ex × Fr) :=
  match c with
  | .skip => some (.normal, fr)
  | .label _ => some (.normal, fr)
  | .seq a b => cThen ev rnd fn b (ev.code rnd fn a fr)
  | .cond x a b => cCond ev rnd fn a b fr (fr.env P x)
  | .block id b => cBlock id (ev.code rnd fn b fr)
  | .loop b => cThen ev rnd fn (.loop b) (ev.code rnd fn b fr)
  | .scope b => ev.code rnd fn b fr
  | .exit id => some (.exit id, fr)
  | .ret => some (.ret, fr)
  | .region _ ops d => cRegion P ev rnd ops fr d
  | .rangeFunc f params assign body => cRange P ev fn params assign body fr rnd (fr.env P f)
  | _ => none
theorem codeF_eq (ev : Ev) (rnd : Option Nat) (fn : Nat) (c : Code) (fr : Fr) : codeF P ev rnd fn c fr = codeS P ev rnd fn c fr := by
  cases c with
  | seq a b =>
    simp only [codeF, codeS]
    cases ev.code rnd fn a fr with
    | none => rfl
    | some p => obtain ⟨x, f⟩ := p; cases x <;> rfl
  | loop b =>
    simp only [codeF, codeS]
    cases ev.code rnd fn b fr with
    | none => rfl
    | some p => obtain ⟨x, f⟩ := p; cases x <;> rfl
  | block id b =>
    simp only [codeF, codeS]
    cases ev.code rnd fn b fr with
    | none => rfl
    | some p => obtain ⟨x, f⟩ := p; cases x <;> rfl
  | cond x a b =>
    simp only [codeF, codeS]
    cases fr.env P x with
    | none => rfl
    | some v => cases v with
      | bool t => cases t <;> rfl
      | _ => rfl
  | region a ops d => cases d <;> simp only [codeF, codeS, cRegion, opsL_all, drawnF_eq]
  | rangeFunc f params assign body =>
    simp only [codeF, codeS]
    cases rnd with
    | some r => cases fr.env P f <;> rfl
    | none => cases fr.env P f with
      | none => rfl
      | some v => cases v with
        | func g a b => cases g <;> rfl
        | _ => rfl
  | _ => rfl

def uRes (fr : Fr) : Option (List Value) → Option CR
  | some [v] => some ⟨.ret v, fr.pc, fr.wk⟩
  | some vs => some ⟨.ret (.tuple ⟨vs⟩), fr.pc, fr.wk⟩
  | none => none
def uNil1 (P : Program) (fr : Fr) (fn : Func) : Option (List PanicEntry) → Option CR
  | some c => some ⟨.pan c, fr.pc, fr.wk⟩
  | none => uRes fr (resultsS P fr fn.results.toList)
def uNil (P : Program) (ch : Option (List PanicEntry)) (fr : Fr) : Option Func → Option CR
  | none => none
  | some fn => uNil1 P fr fn ch
def uCons (P : Program) (ev : Ev) (f : Nat) (ch : Option (List PanicEntry)) (fr : Fr) (x : Deferred) (ds : List Deferred) : Option CR :=
  match x with
  | { target := .collected d, .. } => match fr.wk.heap.get d with
    | some .dfr => bif Nat.ble P.globals.size d then ev.unw f ch { fr with defers := ds, wk := { fr.wk with heap := fr.wk.heap.put d none } } else none
    | _ => none
  | { target := .fn (.func g) _, args } =>
    bif bodied P g then match ev.call g args.toList ch fr.wk with
    | some ⟨.ret _, pc, σ⟩ => match ch, pc with
      | none, none => ev.unw f none { fr with defers := ds, wk := σ }
      | some _, some (x :: older) => bif x.recovered then (bif older.all (fun y => !y.goexit) then ev.unw f none { fr with defers := ds, wk := σ } else none)
          else ev.unw f (some (x :: older)) { fr with defers := ds, wk := σ }
      | _, _ => none
    | _ => none
    else none
  | _ => none
def uList (P : Program) (ev : Ev) (f : Nat) (ch : Option (List PanicEntry)) (fr : Fr) : List Deferred → Option CR
  | [] => uNil P ch fr (fnAt P f)
  | x :: ds => uCons P ev f ch fr x ds
def unwF (P : Program) (ev : Ev) (f : Nat) (ch : Option (List PanicEntry)) (fr : Fr) : Option CR := uList P ev f ch fr fr.defers
theorem unwF_eq (ev : Ev) (f : Nat) (ch : Option (List PanicEntry)) (fr : Fr) : unwF P ev f ch fr = unwS P ev f ch fr := by
  unfold unwF unwS
  cases fr.defers with
  | nil =>
    simp only [uList]
    cases fnAt P f with
    | none => rfl
    | some fn => cases ch with
      | some c => rfl
      | none =>
        simp only [uNil, uNil1]
        cases resultsS P fr fn.results.toList with
        | none => rfl
        | some vs => cases vs with
          | nil => rfl
          | cons v r => cases r <;> rfl
  | cons x ds =>
    obtain ⟨tg, args⟩ := x
    cases tg with
    | fn g b => cases g <;> rfl
    | _ => rfl

def kEnd (ev : Ev) (f : Nat) : Option (Ex × Fr) → Option CR
  | some (.normal, fr) => ev.unw f none fr
  | some (.ret, fr) => ev.unw f none fr
  | some (.panic ch, fr) => ev.unw f (some ch) fr
  | _ => none
def kBody (ev : Ev) (f : Nat) (args : List Value) (pc : Option (List PanicEntry)) (σ : SW) (n : Nat) : Option Code → Option CR
  | some c => kEnd ev f (ev.code none f c { tm := Tr.ofList args, n := n, defers := [], pc := pc, wk := σ })
  | none => none
def callF (P : Program) (ev : Ev) (f : Nat) (args : List Value) (pc : Option (List PanicEntry)) (σ : SW) : Option CR :=
  match fnAt P f with
  | some fn => kBody ev f args pc σ fn.ntmps fn.body
  | none => none
theorem callF_eq (ev : Ev) (f : Nat) (args : List Value) (pc : Option (List PanicEntry)) (σ : SW) : callF P ev f args pc σ = callS P ev f args pc σ := by
  unfold callF callS
  cases fnAt P f with
  | none => rfl
  | some fn =>
    simp only
    cases fn.body with
    | none => rfl
    | some c =>
      simp only [kBody]
      cases ev.code none f c { tm := Tr.ofList args, n := fn.ntmps, defers := [], pc := pc, wk := σ } with
      | none => rfl
      | some p => obtain ⟨x, fr⟩ := p; cases x <;> rfl

def stepF (P : Program) (ev : Ev) : Ev := ⟨fun rnd fn c fr => chk fr (codeF P ev rnd fn c fr), fun f args pc σ => chkC σ.next (callF P ev f args pc σ), fun f ch fr => chkC fr.wk.next (unwF P ev f ch fr)⟩
theorem stepF_eq (ev : Ev) : stepF P ev = stepE P ev := by
  simp only [stepF, stepE, codeF_eq, callF_eq, unwF_eq]
def evF (P : Program) (n : Nat) : Ev := Nat.rec evB (fun _ e => stepF P e) n
theorem evF_eq (n : Nat) : evF P n = ev P n := by
  induction n with
  | zero => rfl
  | succ n ih => show stepF P (evF P n) = stepE P (ev P n); rw [ih, stepF_eq]
def givesF (P : Program) (n f : Nat) (args : List Value) (v : Value) : Bool :=
  match (evF P n).call f args none ⟨.lf, P.globals.size⟩ with
  | some ⟨.ret u, _, _⟩ => veq u v && plain v
  | _ => false
theorem givesF_eq {n f : Nat} {args : List Value} {v : Value} (h : givesF P n f args v = true) : gives P n f args v = true := by
  unfold givesF at h
  rw [evF_eq] at h
  exact h
end Go.Sh
