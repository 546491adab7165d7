/- Shadow evaluation, 16: what is owed; the targets of calls. -/
import Derived.Test.YtjipcihcldngbaaGreatDoorShO
namespace Go.Sh
variable {P : Program} {ρ : Rho} {G : Nat}

def ArrR (P : Program) (ρ : Rho) (m : Machine) (b : Frame) (k : List Item) : Ex → Act → List Frame → World → Prop
  | .normal, a, cs, w => Steps P m (lone (b.atR a k) cs w)
  | .exit id, a, cs, w => ∃ k0, Steps P m (lone (b.atR a (.code (.exit id) :: k0)) cs w) ∧ exitTo id k0 = exitTo id k
  | .ret, a, cs, w => ∃ k0, Steps P m (lone (b.atR a (.code .ret :: k0)) cs w)
  | .panic ch, a, cs, w => ∃ ch' k0, ChR ρ ch ch' ∧ Steps P m (lone { b.atR a k0 with mode := .panicking ch' } cs w)

theorem ArrR.of_steps {m m1 : Machine} {b : Frame} {k : List Item} {e : Ex} {a : Act} {cs : List Frame} {w : World} (h : Steps P m m1) (h' : ArrR P ρ m1 b k e a cs w) : ArrR P ρ m b k e a cs w := by
  cases e with
  | normal => exact h.trans h'
  | exit id => obtain ⟨k0, h1, h2⟩ := h'; exact ⟨k0, h.trans h1, h2⟩
  | ret => obtain ⟨k0, h1⟩ := h'; exact ⟨k0, h.trans h1⟩
  | panic ch => obtain ⟨ch', k0, h1, h2⟩ := h'; exact ⟨ch', k0, h1, h.trans h2⟩

def CodeOk (P : Program) (G : Nat) (rnd : Option Nat) (fn : Nat) (c : Code) (fr : Fr) (e : Ex) (fr' : Fr) : Prop :=
  ∀ ρ b a cs w k, Fst P ρ rnd fn fr b a cs → Rel G ρ fr.wk w → Fresh ρ fr.wk fr'.wk →
    ∃ ρ' a' cs' w', Evo G ρ fr.wk w ρ' fr'.wk w' ∧ Fst P ρ' rnd fn fr' b a' cs' ∧ CsMod b.kind cs cs' ∧ ArrR P ρ' (lone (b.atR a (.code c :: k)) cs w) b k e a' cs' w'

/-- What an operation leaves in the temporaries. -/
def TmpsOk (o : Oper) (e : Ex) (a a' : Act) : Prop := (e = .normal ∧ ∃ v', a'.tmps = (a.put o.dst v').tmps) ∨ (e ≠ .normal ∧ a'.tmps = a.tmps)

def OpOk (P : Program) (G : Nat) (rnd : Option Nat) (fn : Nat) (o : Oper) (fr : Fr) (e : Ex) (fr' : Fr) : Prop :=
  ∀ ρ b a cs w ops i rest k, ops[i]? = some o → Region.wanted o (yielded ops a.tmps) = true → Fst P ρ rnd fn fr b a cs → Rel G ρ fr.wk w → Fresh ρ fr.wk fr'.wk →
    ∃ ρ' a' cs' w', Evo G ρ fr.wk w ρ' fr'.wk w' ∧ Fst P ρ' rnd fn fr' b a' cs' ∧ CsMod b.kind cs cs' ∧ TmpsOk o e a a' ∧
      ArrR P ρ' (lone (b.atR a (.inRegion ops (i :: rest) :: k)) cs w) b (.inRegion ops rest :: k) e a' cs' w'

def Leav (P : Program) (ρ : Rho) (f : Nat) (kind : CallKind) (e : End) (frl : Frame) (w : World) : Prop :=
  frl.fn = f ∧ frl.kind = kind ∧ frl.defers = [] ∧ ∃ fn, P.funcs[f]? = some fn ∧
    match e with
    | .ret v => ∃ v', VR ρ v v' ∧ frl.mode = .returning ∧ (results fn frl.tmps).run P w = .ok v' w
    | .pan ch => ∃ ch', ChR ρ ch ch' ∧ frl.mode = .panicking ch'

def CallOk (P : Program) (G : Nat) (f : Nat) (args : List Value) (pc : Option (List PanicEntry)) (σ : SW) (r : CR) : Prop :=
  ∀ ρ (args' : Array Value) kind cs w, LR ρ args args'.toList → PcR ρ pc kind cs → Rel G ρ σ w → Fresh ρ σ r.w →
    ∃ ρ' frl cs' w', Evo G ρ σ w ρ' r.w w' ∧ PcR ρ' r.pc kind cs' ∧ CsMod kind cs cs' ∧ Steps P (lone (Frame.enter P f args' kind) cs w) (lone frl cs' w') ∧ Leav P ρ' f kind r.e frl w'

def UnwOk (P : Program) (G : Nat) (f : Nat) (ch : Option (List PanicEntry)) (fr : Fr) (r : CR) : Prop :=
  ∀ ρ b a cs w todo mode, Fst P ρ none f fr b a cs → (match ch with | none => mode = .returning | some c => ∃ c', ChR ρ c c' ∧ mode = .panicking c') → Rel G ρ fr.wk w → Fresh ρ fr.wk r.w →
    ∃ ρ' frl cs' w', Evo G ρ fr.wk w ρ' r.w w' ∧ PcR ρ' r.pc b.kind cs' ∧ CsMod b.kind cs cs' ∧ Steps P (lone { b.atR a todo with mode := mode } cs w) (lone frl cs' w') ∧ Leav P ρ' f b.kind r.e frl w'

structure EvSound (P : Program) (G : Nat) (ev : Ev) : Prop where
  code : ∀ {rnd fn c fr e fr'}, ev.code rnd fn c fr = some (e, fr') → CodeOk P G rnd fn c fr e fr'
  call : ∀ {f args pc σ r}, ev.call f args pc σ = some r → CallOk P G f args pc σ r
  unw : ∀ {f ch fr r}, ev.unw f ch fr = some r → UnwOk P G f ch fr r
  -- the number of blocks does not fall
  codeN : ∀ {rnd fn c fr e fr'}, ev.code rnd fn c fr = some (e, fr') → fr.wk.next ≤ fr'.wk.next
  callN : ∀ {f args pc σ r}, ev.call f args pc σ = some r → σ.next ≤ r.w.next
  unwN : ∀ {f ch fr r}, ev.unw f ch fr = some r → fr.wk.next ≤ r.w.next

/-- The code that is called. -/
def callSem (f : Operand → Value) (c : Call) (ty : TypeId) : Sem Next := do let d ← resolve f c ty; invoke d.target d.args

theorem evArgs_arr {e : Env} {f : Operand → Value} (he : EnvR ρ e f) {l : Array Operand} {vs : List Value} (h : evArgs e l.toList = some vs) : LR ρ vs (l.map f).toList := by
  rw [Array.toList_map]; exact evArgs_R he h

theorem callFunc_enter {f : FuncId} {fn : Func} (hf : fnAt P f = some fn) (hb : fn.body.isSome = true) (args : Array Value) (w : World) : (callFunc f args).run P w = .ok (.enter f args) w := by
  obtain ⟨h1, h2⟩ := fnAt_some hf
  obtain ⟨c, hc⟩ := Option.isSome_iff_exists.1 hb
  have h3 : fn.name ≠ "runtime.NumGoroutine" := by simpa using h2
  simp [callFunc, h1, h3, hc]

theorem target_enter {e : Env} {f : Operand → Value} (he : EnvR ρ e f) {c : Call} {g : FuncId} {args : List Value} (h : target P e c = some (.enter g args)) {fn : Func} (hf : fnAt P g = some fn) (hb : fn.body.isSome = true) (ty : TypeId) :
    ∃ args', LR ρ args args'.toList ∧ ∀ w, (callSem f c ty).run P w = .ok (.enter g args') w := by
  unfold target at h
  split at h
  · rename_i vs hvs
    have hA := evArgs_arr he hvs
    split at h
    · rename_i x hcal
      split at h
      · rename_i g' a b hx
        cases h
        obtain ⟨a', b', hx', h1, h2⟩ := (he x _ hx).func_inv (by simp)
        refine ⟨(a' ++ c.args.map f) ++ b', by simpa using (h1.append hA).append h2, fun w => ?_⟩
        simp only [callSem, resolve, hcal, hx', Deferred.ofValue, Sem.run_bind, Sem.run_pure, Result.andThen_ok, invoke]
        exact callFunc_enter hf hb _ w
      · cases h
      · cases h
    · rename_i r name hcal
      split at h
      · rename_i t v hx
        split at h
        · rename_i g' u hm
          cases h
          obtain ⟨v', hx', hv⟩ := (he r _ hx).iface_inv
          have hn : P.types.size + Made.depth = (P.types.size + Made.depth - 1) + 1 := by unfold Made.depth; omega
          obtain ⟨u', hu', hrun⟩ := methodS_sound hv hm (P.types.size + Made.depth - 1)
          refine ⟨#[u'] ++ (#[f r] ++ c.args.map f).extract 1 (#[f r] ++ c.args.map f).size, ?_, fun w => ?_⟩
          · have : ((#[f r] ++ c.args.map f).extract 1 (#[f r] ++ c.args.map f).size).toList = (c.args.map f).toList := by
              simp; exact List.take_of_length_le (by simp)
            simp only [Array.toList_append, this]
            exact LR.cons hu' hA
          · have h0 : (#[f r] ++ c.args.map f)[0]? = some (.iface t v') := by rw [Array.getElem?_append_left (by simp)]; simp [hx']
            simp only [callSem, resolve, hcal, Sem.run_bind, Sem.run_pure, Result.andThen_ok, invoke]
            rw [h0]
            simp only [callMethod, Sem.run_bind, run_program, Result.andThen_ok]
            rw [hn, hrun w]
            simp only [Result.andThen_ok]
            exact callFunc_enter hf hb _ w
        · cases h
      · cases h
    · cases h
  · cases h

theorem target_round {e : Env} {f : Operand → Value} (he : EnvR ρ e f) {c : Call} {l : Nat} {args : List Value} (h : target P e c = some (.round l args)) (ty : TypeId) :
    ∃ (l' cc : Nat) (args' : Array Value), ρ l = some (l', cc) ∧ LR ρ args args'.toList ∧ ∀ w, (callSem f c ty).run P w = (Instr.yield l' args').run P w := by
  unfold target at h
  split at h
  · rename_i vs hvs
    have hA := evArgs_arr he hvs
    split at h
    · rename_i x hcal
      split at h
      · cases h
      · rename_i l0 a b hx
        cases h
        have hx1 := he x _ hx
        generalize hfx : f x = y at hx1
        cases hx1 with
        | func _ _ _ _ _ hf => exact absurd rfl (hf l)
        | yield _ b' cc hb =>
          refine ⟨b', cc, #[] ++ c.args.map f, hb, by simpa using hA, fun w => ?_⟩
          simp only [callSem, resolve, hcal, hfx, Deferred.ofValue, Sem.run_bind, Sem.run_pure, Result.andThen_ok, invoke]
      · cases h
    · split at h
      · split at h <;> cases h
      · cases h
    · cases h
  · cases h

/-- A deferred call's target. -/
theorem target_defer {e : Env} {f : Operand → Value} (he : EnvR ρ e f) {c : Call} {x : Operand} (hcal : c.callee = .value x) {g : FuncId} {args : List Value} (h : target P e c = some (.enter g args)) (ty : TypeId) :
    ∃ d', DefR ρ { target := .fn (.func g) #[], args := ⟨args⟩ } d' ∧ ∀ w, (resolve f c ty).run P w = .ok d' w := by
  unfold target at h
  split at h
  · rename_i vs hvs
    have hA := evArgs_arr he hvs
    rw [hcal] at h
    simp only at h
    split at h
    · rename_i g' a b hx
      cases h
      obtain ⟨a', b', hx', h1, h2⟩ := (he x _ hx).func_inv (by simp)
      refine ⟨{ target := .fn (.func g) b', args := a' ++ c.args.map f }, .inr ⟨g, b', rfl, rfl, ?_⟩, fun w => ?_⟩
      · simpa using (h1.append hA).append h2
      · simp only [resolve, hcal, hx', Deferred.ofValue, Sem.run_pure]
    · cases h
    · cases h
  · cases h

end Go.Sh
