/- Shadow evaluation, 16: what is owed; the targets of calls. -/
import Derived.Test.YtfgjiidbafdndaaGreatDoorK28
import Derived.RangeFuncRecord
namespace Go.Sh
section
variable {P : Program} {ρ : Rho} {G : Nat}
def ArrR (P : Program) (ρ : Rho) (m : Machine) (b : Frame) (k : List Item) : Ex → Act → List Frame → World → Prop
 | .normal, a, cs, w => Steps P m (lone (b.atR a k) cs w)
 | .exit id, a, cs, w => ∃ k0, Steps P m (lone (b.atR a (.code (.exit id) :: k0)) cs w) ∧ exitTo id k0 = exitTo id k
 | .ret, a, cs, w => ∃ k0, Steps P m (lone (b.atR a (.code .ret :: k0)) cs w)
 | .panic ch, a, cs, w => ∃ ch' k0, ChR ρ ch ch' ∧ Steps P m (lone { b.atR a k0 with mode := .panicking ch' } cs w)
theorem ArrR.of_steps {m m1 : Machine} {b : Frame} {k : List Item} {e : Ex} {a : Act} {cs : List Frame} {w : World} (h : Steps P m m1) (h' : ArrR P ρ m1 b k e a cs w) : ArrR P ρ m b k e a cs w := by
 cases e with
 | normal => exact h.trans h'
 | exit id => obtain ⟨k0, h1, h2⟩ := h'; exact ⟨k0, h.trans h1, h2⟩
 | ret => obtain ⟨k0, h1⟩ := h'; exact ⟨k0, h.trans h1⟩
 | panic ch => obtain ⟨ch', k0, h1, h2⟩ := h'; exact ⟨ch', k0, h1, h.trans h2⟩
def CodeOk (P : Program) (G : Nat) (rnd : Option Nat) (fn : Nat) (c : Code) (fr : Fr) (e : Ex) (fr' : Fr) : Prop :=
 ∀ ρ b a cs w k, Fst P ρ rnd fn fr b a cs → Rel G ρ fr.wk w → Fresh ρ fr.wk fr'.wk →
  ∃ ρ' a' cs' w', Evo G ρ fr.wk w ρ' fr'.wk w' ∧ Fst P ρ' rnd fn fr' b a' cs' ∧ CsMod b.kind cs cs' ∧ ArrR P ρ' (lone (b.atR a (.code c :: k)) cs w) b k e a' cs' w'
def TmpsOk (o : Oper) (e : Ex) (a a' : Act) : Prop := (e = .normal ∧ ∃ v', a'.tmps = (a.put o.dst v').tmps) ∨ (e ≠ .normal ∧ a'.tmps = a.tmps)
def OpOk (P : Program) (G : Nat) (rnd : Option Nat) (fn : Nat) (o : Oper) (fr : Fr) (e : Ex) (fr' : Fr) : Prop :=
 ∀ ρ b a cs w ops i rest k, ops[i]? = some o → Region.wanted o (yielded ops a.tmps) = true → Fst P ρ rnd fn fr b a cs → Rel G ρ fr.wk w → Fresh ρ fr.wk fr'.wk →
  ∃ ρ' a' cs' w', Evo G ρ fr.wk w ρ' fr'.wk w' ∧ Fst P ρ' rnd fn fr' b a' cs' ∧ CsMod b.kind cs cs' ∧ TmpsOk o e a a' ∧
   ArrR P ρ' (lone (b.atR a (.inRegion ops (i :: rest) :: k)) cs w) b (.inRegion ops rest :: k) e a' cs' w'
def Leav (P : Program) (ρ : Rho) (f : Nat) (kind : CallKind) (e : End) (frl : Frame) (w : World) : Prop :=
 frl.fn = f ∧ frl.kind = kind ∧ frl.defers = [] ∧ ∃ fn, P.funcs[f]? = some fn ∧
  match e with
  | .ret v => ∃ v', VR ρ v v' ∧ frl.mode = .returning ∧ (results fn frl.tmps).run P w = .ok v' w
  | .pan ch => ∃ ch', ChR ρ ch ch' ∧ frl.mode = .panicking ch'
def CallOk (P : Program) (G : Nat) (f : Nat) (args : List Value) (pc : Option (List PanicEntry)) (σ : SW) (r : CR) : Prop :=
 ∀ ρ (args' : Array Value) kind cs w, LR ρ args args'.toList → PcR ρ pc kind cs → Rel G ρ σ w → Fresh ρ σ r.w →
  ∃ ρ' frl cs' w', Evo G ρ σ w ρ' r.w w' ∧ PcR ρ' r.pc kind cs' ∧ CsMod kind cs cs' ∧ Steps P (lone (Frame.enter P f args' kind) cs w) (lone frl cs' w') ∧ Leav P ρ' f kind r.e frl w'
def UnwOk (P : Program) (G : Nat) (f : Nat) (ch : Option (List PanicEntry)) (fr : Fr) (r : CR) : Prop :=
 ∀ ρ b a cs w todo mode, Fst P ρ none f fr b a cs → (match ch with | none => mode = .returning | some c => ∃ c', ChR ρ c c' ∧ mode = .panicking c') → Rel G ρ fr.wk w → Fresh ρ fr.wk r.w →
  ∃ ρ' frl cs' w', Evo G ρ fr.wk w ρ' r.w w' ∧ PcR ρ' r.pc b.kind cs' ∧ CsMod b.kind cs cs' ∧ Steps P (lone { b.atR a todo with mode := mode } cs w) (lone frl cs' w') ∧ Leav P ρ' f b.kind r.e frl w'
structure EvSound (P : Program) (G : Nat) (ev : Ev) : Prop where
 code : ∀ {rnd fn c fr e fr'}, ev.code rnd fn c fr = some (e, fr') → CodeOk P G rnd fn c fr e fr'
 call : ∀ {f args pc σ r}, ev.call f args pc σ = some r → CallOk P G f args pc σ r
 unw : ∀ {f ch fr r}, ev.unw f ch fr = some r → UnwOk P G f ch fr r
 codeN : ∀ {rnd fn c fr e fr'}, ev.code rnd fn c fr = some (e, fr') → fr.wk.next ≤ fr'.wk.next
 callN : ∀ {f args pc σ r}, ev.call f args pc σ = some r → σ.next ≤ r.w.next
 unwN : ∀ {f ch fr r}, ev.unw f ch fr = some r → fr.wk.next ≤ r.w.next
def callSem (f : Operand → Value) (c : Call) (ty : TypeId) : Sem Next := do let d ← resolve f c ty; invoke d.target d.args
theorem evArgs_arr {e : Env} {f : Operand → Value} (he : EnvR ρ e f) {l : Array Operand} {vs : List Value} (h : evArgs e l.toList = some vs) : LR ρ vs (l.map f).toList := by
 rw [Array.toList_map]; exact evArgs_R he h
theorem callFunc_enter {f : FuncId} {fn : Func} (hf : fnAt P f = some fn) (hb : fn.body.isSome = true) (args : Array Value) (w : World) : (callFunc f args).run P w = .ok (.enter f args) w := by
 obtain ⟨h1, h2⟩ := fnAt_some hf
 obtain ⟨c, hc⟩ := Option.isSome_iff_exists.1 hb
 have h3 : fn.name ≠ "runtime.NumGoroutine" := by simpa using h2
 simp [callFunc, h1, h3, hc]
theorem target_enter {e : Env} {f : Operand → Value} (he : EnvR ρ e f) {c : Call} {g : FuncId} {args : List Value} (h : target P e c = some (.enter g args)) {fn : Func} (hf : fnAt P g = some fn) (hb : fn.body.isSome = true) (ty : TypeId) :
  ∃ args', LR ρ args args'.toList ∧ ∀ w, (callSem f c ty).run P w = .ok (.enter g args') w := by
 unfold target at h
 split at h
 ·rename_i vs hvs
  have hA := evArgs_arr he hvs
  split at h
  ·rename_i x hcal
   split at h
   ·rename_i g' a b hx
    cases h
    obtain ⟨a', b', hx', h1, h2⟩ := (he x _ hx).func_inv (by simp)
    refine ⟨(a' ++ c.args.map f) ++ b', by simpa using (h1.append hA).append h2, fun w => ?_⟩
    simp only [callSem, resolve, hcal, hx', Deferred.ofValue, Sem.run_bind, Sem.run_pure, Result.andThen_ok, invoke]
    exact callFunc_enter hf hb _ w
   ·cases h
   ·cases h
  ·rename_i r name hcal
   split at h
   ·rename_i t v hx
    split at h
    ·rename_i g' u hm
     cases h
     obtain ⟨v', hx', hv⟩ := (he r _ hx).iface_inv
     have hn : P.types.size + Made.depth = (P.types.size + Made.depth - 1) + 1 := by unfold Made.depth; omega
     obtain ⟨u', hu', hrun⟩ := methodS_sound hv hm (P.types.size + Made.depth - 1)
     refine ⟨#[u'] ++ (#[f r] ++ c.args.map f).extract 1 (#[f r] ++ c.args.map f).size, ?_, fun w => ?_⟩
     ·have : ((#[f r] ++ c.args.map f).extract 1 (#[f r] ++ c.args.map f).size).toList = (c.args.map f).toList := by
       simp; exact List.take_of_length_le (by simp)
      simp only [Array.toList_append, this]
      exact LR.cons hu' hA
     ·have h0 : (#[f r] ++ c.args.map f)[0]? = some (.iface t v') := by rw [Array.getElem?_append_left (by simp)]; simp [hx']
      simp only [callSem, resolve, hcal, Sem.run_bind, Sem.run_pure, Result.andThen_ok, invoke]
      rw [h0]
      simp only [callMethod, Sem.run_bind, run_program, Result.andThen_ok]
      rw [hn, hrun w]
      simp only [Result.andThen_ok]
      exact callFunc_enter hf hb _ w
    ·cases h
   ·cases h
  ·cases h
 ·cases h
theorem target_round {e : Env} {f : Operand → Value} (he : EnvR ρ e f) {c : Call} {l : Nat} {args : List Value} (h : target P e c = some (.round l args)) (ty : TypeId) :
  ∃ (l' cc : Nat) (args' : Array Value), ρ l = some (l', cc) ∧ LR ρ args args'.toList ∧ ∀ w, (callSem f c ty).run P w = (Instr.yield l' args').run P w := by
 unfold target at h
 split at h
 ·rename_i vs hvs
  have hA := evArgs_arr he hvs
  split at h
  ·rename_i x hcal
   split at h
   ·cases h
   ·rename_i l0 a b hx
    cases h
    have hx1 := he x _ hx
    generalize hfx : f x = y at hx1
    cases hx1 with
    | func _ _ _ _ _ hf => exact absurd rfl (hf l)
    | yield _ b' cc hb =>
     refine ⟨b', cc, #[] ++ c.args.map f, hb, by simpa using hA, fun w => ?_⟩
     simp only [callSem, resolve, hcal, hfx, Deferred.ofValue, Sem.run_bind, Sem.run_pure, Result.andThen_ok, invoke]
   ·cases h
  ·split at h
   ·split at h <;> cases h
   ·cases h
  ·cases h
 ·cases h
theorem target_defer {e : Env} {f : Operand → Value} (he : EnvR ρ e f) {c : Call} {x : Operand} (hcal : c.callee = .value x) {g : FuncId} {args : List Value} (h : target P e c = some (.enter g args)) (ty : TypeId) :
  ∃ d', DefR ρ { target := .fn (.func g) #[], args := ⟨args⟩ } d' ∧ ∀ w, (resolve f c ty).run P w = .ok d' w := by
 unfold target at h
 split at h
 ·rename_i vs hvs
  have hA := evArgs_arr he hvs
  rw [hcal] at h
  simp only at h
  split at h
  ·rename_i g' a b hx
   cases h
   obtain ⟨a', b', hx', h1, h2⟩ := (he x _ hx).func_inv (by simp)
   refine ⟨{ target := .fn (.func g) b', args := a' ++ c.args.map f }, .inr ⟨g, b', rfl, rfl, ?_⟩, fun w => ?_⟩
   ·simpa using (h1.append hA).append h2
   ·simp only [resolve, hcal, hx', Deferred.ofValue, Sem.run_pure]
  ·cases h
  ·cases h
 ·cases h
end
section
variable {P : Program} {ρ : Rho} {G : Nat}
theorem chk_some {fr : Fr} {r : Option (Ex × Fr)} {e : Ex} {f : Fr} (h : chk fr r = some (e, f)) : r = some (e, f) ∧ fr.wk.next ≤ f.wk.next := by
 unfold chk at h
 split at h
 ·obtain ⟨hb, h⟩ := cond_some h
  cases h
  exact ⟨rfl, Nat.le_of_ble_eq_true hb⟩
 ·cases h
theorem Fresh.first {ρ : Rho} {a b c : SW} (h : Fresh ρ a c) (hb : b.next ≤ c.next) : Fresh ρ a b := fun i h1 h2 => h i h1 (by omega)
theorem Fresh.second {ρ ρ1 : Rho} {a b c : SW} {w w1 : World} (h : Fresh ρ a c) (k : Evo G ρ a w ρ1 b w1) : Fresh ρ1 b c := fun i h1 h2 => by
 rw [k.only i (.inr h1)]; exact h i (by have := k.next; omega) h2
section fin
variable {rnd : Option Nat} {fn : Nat} {o : Oper} {fr fr' : Fr} {b : Frame} {a : Act} {cs : List Frame} {w w' : World} {ops : Array Oper} {i : Nat} {rest : List Nat} {k : List Item}
theorem put_wk {fr fr' : Fr} {d : Option Tmp} {v : Value} (h : fr.put d v = some fr') : fr'.wk = fr.wk := by
 cases d with
 | none => simp only [Fr.put] at h; cases h; rfl
 | some t => simp only [Fr.put] at h; obtain ⟨_, h⟩ := cond_some h; cases h; rfl
theorem fin_value (ho : ops[i]? = some o) (hw : Region.wanted o (yielded ops a.tmps) = true) (hd : ∀ c, o.op ≠ .defer c) (hf : Fst P ρ rnd fn fr b a cs) {ρ' : Rho} {σ : SW} {v v' : Value}
  (hrun : (execOp a.eval o).run P w = .ok (.value v') w') (hv : VR ρ' v v') (hev : Evo G ρ fr.wk w ρ' σ w') (hput : ({ fr with wk := σ } : Fr).put o.dst v = some fr') :
  ∃ ρ' a' cs' w', Evo G ρ fr.wk w ρ' fr'.wk w' ∧ Fst P ρ' rnd fn fr' b a' cs' ∧ CsMod b.kind cs cs' ∧ TmpsOk o .normal a a' ∧
   ArrR P ρ' (lone (b.atR a (.inRegion ops (i :: rest) :: k)) cs w) b (.inRegion ops rest :: k) .normal a' cs' w' := by
 obtain ⟨h1, h2⟩ := ((hf.mono hev.ext).wk σ).put hv hput
 refine ⟨ρ', a.put o.dst v', cs, w', by rw [h2]; exact hev, h1, CsMod.refl _ _, .inl ⟨rfl, v', rfl⟩, Steps.one (step_value ho hw hd hrun)⟩
theorem fin_skip (ho : ops[i]? = some o) (hw : Region.wanted o (yielded ops a.tmps) = true) (hd : ∀ c, o.op ≠ .defer c) (hf : Fst P ρ rnd fn fr b a cs) {ρ' : Rho} {σ : SW}
  (hrun : (execOp a.eval o).run P w = .ok .skip w') (hev : Evo G ρ fr.wk w ρ' σ w') (hput : ({ fr with wk := σ } : Fr).put o.dst undef = some fr') :
  ∃ ρ' a' cs' w', Evo G ρ fr.wk w ρ' fr'.wk w' ∧ Fst P ρ' rnd fn fr' b a' cs' ∧ CsMod b.kind cs cs' ∧ TmpsOk o .normal a a' ∧
   ArrR P ρ' (lone (b.atR a (.inRegion ops (i :: rest) :: k)) cs w) b (.inRegion ops rest :: k) .normal a' cs' w' := by
 obtain ⟨h1, h2⟩ := ((hf.mono hev.ext).wk σ).put (undefR ρ') hput
 exact ⟨ρ', a.put o.dst undef, cs, w', by rw [h2]; exact hev, h1, CsMod.refl _ _, .inl ⟨rfl, undef, rfl⟩, Steps.one (step_skip_v ho hw hd hrun)⟩
end fin
theorem fin_some {fr fr' : Fr} {σ : SW} {d : Option Tmp} {v : Value} {e : Ex}
  (h : (match ({ fr with wk := σ } : Fr).put d v with | some f => some (Ex.normal, f) | none => none) = some (e, fr')) : e = .normal ∧ ({ fr with wk := σ } : Fr).put d v = some fr' := by
 split at h
 ·rename_i f hf; cases h; exact ⟨rfl, hf⟩
 ·cases h
theorem roundTm_R : ∀ (n : Nat) {ps : List Tmp} {as as' : List Value} {t : Tr Value} {tmps : Array Value}, TmR ρ t tmps → n ≤ tmps.size → LR ρ as as' →
  TmR ρ (roundTm n ps as t) ((ps.zip as').foldl (fun (tmps : Array Value) (x : Tmp × Value) => tmps.setIfInBounds x.1 x.2) tmps) ∧ n ≤ ((ps.zip as').foldl (fun (tmps : Array Value) (x : Tmp × Value) => tmps.setIfInBounds x.1 x.2) tmps).size
 | n, [], as, as', t, tmps, h, hn, _ => ⟨by simpa [roundTm] using h, by simpa using hn⟩
 | n, p :: ps, [], as', t, tmps, h, hn, hl => by
  have := hl.nil_inv; subst this
  exact ⟨by simpa [roundTm] using h, by simpa using hn⟩
 | n, p :: ps, v :: as, as', t, tmps, h, hn, hl => by
  obtain ⟨v', r', rfl, hv, hr⟩ := hl.cons_inv
  simp only [roundTm, List.zip_cons_cons, List.foldl_cons]
  refine roundTm_R n ?_ (by simpa using hn) hr
  cases hb : Nat.blt p n with
  | true => exact h.put (Nat.lt_of_lt_of_le (blt_lt hb) hn) hv
  | false =>
   intro j u hu
   simp only [cond_false, Tr.get_put] at hu
   by_cases e : p = j
   ·rw [if_pos e] at hu; cases hu
   ·rw [if_neg e] at hu
    obtain ⟨u', h1, h2⟩ := h j u hu
    exact ⟨u', by rw [Array.getElem?_setIfInBounds_ne e]; exact h1, h2⟩
theorem exitTo_region (id : Nat) (ops : Array Oper) (l : List Nat) (k : List Item) : exitTo id (.inRegion ops l :: k) = exitTo id k := rfl
theorem call_ok {ev : Ev} (he : EvSound P G ev) {rnd : Option Nat} {fn : Nat} {o : Oper} {fr fr' : Fr} {e : Ex} {g : FuncId} {args : List Value} {r : CR} (hcall : ev.call g args none fr.wk = some r)
  (hd : ∀ c, o.op ≠ .defer c) (hrun : ∀ ρ b a cs w, Fst P ρ rnd fn fr b a cs → Rel G ρ fr.wk w → ∃ args' : Array Value, LR ρ args args'.toList ∧ (execOp a.eval o).run P w = .ok (.enter g args') w)
  (hres : match r.e with
    | .ret v => e = .normal ∧ ({ fr with wk := r.w } : Fr).put o.dst v = some fr'
    | .pan ch => e = .panic ch ∧ fr' = { fr with wk := r.w }) : OpOk P G rnd fn o fr e fr' := by
 intro ρ b a cs w ops i rest k ho hw hf hr hfresh
 obtain ⟨args', hA, hrn⟩ := hrun ρ b a cs w hf hr
 have hwk : fr'.wk = r.w := by
  cases hre : r.e with
  | ret v => rw [hre] at hres; exact put_wk hres.2
  | pan ch => rw [hre] at hres; rw [hres.2]
 obtain ⟨ρ', frl, cs', w', hev, hpc, hmod, hsteps, hfn, hk, hdf, fnv, hfv, hleav⟩ := he.call hcall ρ args' .normal (b.atR a (.inRegion ops (i :: rest) :: k) :: cs) w hA (.inl rfl) hr (by rw [← hwk]; exact hfresh)
 have hcs := hmod.normal
 subst hcs
 have henter := step_enter (k := k) (cs := cs) (rest := rest) (b := b) ho hw hd hrn
 cases hre : r.e with
 | ret v =>
  rw [hre] at hres hleav
  obtain ⟨rfl, hput⟩ := hres
  obtain ⟨v', hv, hm, hrs⟩ := hleav
  have hl : frl.leaving P w' (.returned v') := ⟨hm, hdf, hk, fnv, by rw [hfn]; exact hfv, hrs⟩
  have hback := step_leave_returned (P := P) (c := b.atR a (.inRegion ops (i :: rest) :: k)) (cs := cs) hl
  rw [Frame.finish_atR, ho] at hback
  obtain ⟨h1, h2⟩ := ((hf.mono hev.ext).wk r.w).put hv hput
  exact ⟨ρ', a.put o.dst v', cs, w', by rw [hwk]; exact hev, h1, CsMod.refl _ _, .inl ⟨rfl, v', rfl⟩, (Steps.head henter hsteps).trans (Steps.one hback)⟩
 | pan ch =>
  rw [hre] at hres hleav
  obtain ⟨rfl, rfl⟩ := hres
  obtain ⟨ch', hc, hm⟩ := hleav
  have hl : frl.leaving P w' (.panicked ch') := ⟨hm, hdf, fnv, by rw [hfn]; exact hfv⟩
  have hback := step_leave_panicked (P := P) (c := b.atR a (.inRegion ops (i :: rest) :: k)) (cs := cs) hl
  rw [Frame.raise_atR] at hback
  exact ⟨ρ', a, cs, w', hev, (hf.mono hev.ext).wk r.w, CsMod.refl _ _, .inr ⟨by simp, rfl⟩, ch', _, hc, (Steps.head henter hsteps).trans (Steps.one hback)⟩
theorem tryRecover_normal {fr : Frame} (h : fr.kind = .normal) (cs : List Frame) : tryRecover fr cs = none := by
 unfold tryRecover; simp [h]
theorem run_recover {f : Operand → Value} {args : Array Operand} {argTypes : Array TypeId} {dst : Option Tmp} {ty : TypeId} {pos : String} {after : Array Edge} {guard : Option (Nat × Bool)} (w : World) :
  (execOp f { dst := dst, op := .call { callee := .builtin .recover, args := args, argTypes := argTypes }, type := ty, pos := pos, after := after, guard := guard }).run P w = .ok .recover w := by
 simp [execOp, resolve, invoke, builtin]
theorem recover_ok {rnd : Option Nat} {fn : Nat} {fr fr' : Fr} {e : Ex} {args : Array Operand} {argTypes : Array TypeId} {dst : Option Tmp} {ty : TypeId} {pos : String} {after : Array Edge} {guard : Option (Nat × Bool)}
  (hrnd : rnd = none)
  (h : (∃ v older, fr.pc = some ({ v, recovered := false, goexit := false } :: older) ∧ ({ fr with pc := some ({ v, recovered := true } :: older) } : Fr).put dst v = some fr' ∧ e = .normal) ∨
    (fr.pc = none ∧ fr.put dst .nilIface = some fr' ∧ e = .normal)) :
  OpOk P G rnd fn { dst := dst, op := .call { callee := .builtin .recover, args := args, argTypes := argTypes }, type := ty, pos := pos, after := after, guard := guard } fr e fr' := by
 intro ρ b a cs w ops i rest k ho hw hf hr hfresh
 have hb : b.roundOf = none := by have := hf.rnd; rw [hrnd] at this; exact this
 have hd : ∀ c, ({ dst := dst, op := .call { callee := .builtin .recover, args := args, argTypes := argTypes }, type := ty, pos := pos, after := after, guard := guard } : Oper).op ≠ .defer c := by simp
 rcases h with ⟨v, older, hpc, hput, rfl⟩ | ⟨hpc, hput, rfl⟩
 ·have hp := hf.pc
  rw [hpc] at hp
  obtain ⟨hk, c0, r, ch', rfl, hm, hc⟩ := hp
  cases ch' with
  | nil => exact hc.elim
  | cons y ys =>
  obtain ⟨⟨hv, h1, h2⟩, hc'⟩ := hc
  obtain ⟨yv, yr, yg⟩ := y
  simp only at hv h1 h2
  subst h1; subst h2
  have ht : tryRecover (b.atR a (.inRegion ops (i :: rest) :: k)) (c0 :: r) = some (yv, { c0 with mode := .panicking ({ v := yv, recovered := true } :: ys) } :: r) := by
   have hk' : (b.atR a (.inRegion ops (i :: rest) :: k)).kind = .deferred := hk
   unfold tryRecover
   simp [hk', hm]
  have hst := step_recover_some (P := P) (k := k) (cs := c0 :: r) (rest := rest) (b := b) ho hw hd hb (run_recover w) ht
  have hf1 : Fst P ρ rnd fn { fr with pc := some ({ v, recovered := true } :: older) } b a ({ c0 with mode := .panicking ({ v := yv, recovered := true } :: ys) } :: r) :=
   ⟨hf.fn, hf.rnd, hf.tm, hf.n, hf.dfs, hk, _, r, _, rfl, rfl, ⟨hv, rfl, rfl⟩, hc'⟩
  obtain ⟨h3, h4⟩ := hf1.put hv hput
  exact ⟨ρ, _, _, w, by rw [h4]; exact Evo.refl hr, h3, .inr ⟨hk, c0, r, _, rfl, rfl⟩, .inl ⟨rfl, _, rfl⟩, Steps.one hst⟩
 ·have hp := hf.pc
  rw [hpc] at hp
  have ht : tryRecover (b.atR a (.inRegion ops (i :: rest) :: k)) cs = none := by
   rcases hp with hk | ⟨hk, c0, r, rfl, hm⟩
   ·exact tryRecover_normal (show (b.atR a (.inRegion ops (i :: rest) :: k)).kind = .normal from hk) cs
   ·have hk' : (b.atR a (.inRegion ops (i :: rest) :: k)).kind = .deferred := hk
    unfold tryRecover
    simp [hk', hm]
  have hst := step_recover_none (P := P) (k := k) (cs := cs) (rest := rest) (b := b) ho hw hd hb (run_recover w) ht
  obtain ⟨h3, h4⟩ := hf.put .nilIface hput
  exact ⟨ρ, _, cs, w, by rw [h4]; exact Evo.refl hr, h3, CsMod.refl _ _, .inl ⟨rfl, _, rfl⟩, Steps.one hst⟩
end
section
variable {P : Program} {ρ : Rho} {G : Nat}
theorem loop_live {σ : SW} {w : World} (hr : Rel G ρ σ w) {l : Nat} {st : LoopState} {pend : Option Code} {f : Nat} {tm : Tr Value} {n : Nat} {ps : List Tmp} {as bo : Code} {d : Nat}
  (hg : σ.heap.get l = some (.loop st pend f tm n ps as bo d)) : ∃ b c r, ρ l = some (b, c) ∧ w.heap[b]? = some (.loop r) ∧ ObjR ρ c (.loop st pend f tm n ps as bo d) (.loop r) := by
 obtain ⟨_, b, c, o', h1, h2, h3⟩ := hr.live _ _ hg
 cases o' with
 | loop r => exact ⟨b, c, r, h1, h2, h3⟩
 | _ => simp only [ObjR] at h3
theorem putObj_chg {w : World} {b : Nat} {o o' : Obj} (h : w.heap[b]? = some o) : Chg1 w (w.putObj b o') b o' := setObj_chg h
theorem round_ok {ev : Ev} (he : EvSound P G ev) {rnd : Option Nat} {fn : Nat} {o : Oper} {fr fr1 fr2 fr' : Fr} {l : Nat} {args : List Value} {f : Nat} {tm : Tr Value} {n : Nat} {ps : List Tmp} {as bo : Code} {d0 : Nat}
  {f2 : Nat} {tm2 : Tr Value} {n2 : Nat} {ps2 : List Tmp} {as2 bo2 : Code} {d2 : Nat} {f3 : Nat} {tm3 : Tr Value} {n3 : Nat} {ps3 : List Tmp} {as3 bo3 : Code} {d3 : Nat} {st3 : LoopState} {pend3 : Option Code} {x : Ex} {jump : Option Code}
  (hd : ∀ c, o.op ≠ .defer c) (hrun : ∀ ρ b a cs w, Fst P ρ rnd fn fr b a cs → Rel G ρ fr.wk w → ∃ (l' cc : Nat) (args' : Array Value), ρ l = some (l', cc) ∧ LR ρ args args'.toList ∧ (execOp a.eval o).run P w = (Instr.yield l' args').run P w)
  (hl : fr.wk.heap.get l = some (.loop .ready none f tm n ps as bo d0)) (hlen : args.length = ps.length) (hGl : G ≤ l)
  (h1 : ev.code (some l) f as { tm := roundTm n ps args tm, n := n, defers := [], pc := none, wk := fr.wk } = some (.normal, fr1))
  (hl1 : fr1.wk.heap.get l = some (.loop .ready none f2 tm2 n2 ps2 as2 bo2 d2))
  (h2 : ev.code (some l) f bo { fr1 with wk := { fr1.wk with heap := fr1.wk.heap.put l (some (.loop .busy none f2 tm2 n2 ps2 as2 bo2 d2)) } } = some (x, fr2))
  (hl2 : fr2.wk.heap.get l = some (.loop st3 pend3 f3 tm3 n3 ps3 as3 bo3 d3))
  (hx : (x = .normal ∧ jump = none) ∨ (x = .ret ∧ jump = some .ret) ∨ ∃ id, x = .exit id ∧ jump = some (.exit id))
  (hput : ({ fr with wk := { fr2.wk with heap := fr2.wk.heap.put l (some (.loop (if jump.isNone then .ready else .done) jump f3 tm3 n3 ps3 as3 bo3 d3)) } } : Fr).put o.dst (.bool jump.isNone) = some fr') :
  OpOk P G rnd fn o fr .normal fr' := by
 intro ρ b a cs w ops i rest k ho hw hf hr hfresh
 have hwk := put_wk hput
 have n1 := he.codeN h1
 have n2' := he.codeN h2
 simp only at n1 n2'
 have hwkn : fr'.wk.next = fr2.wk.next := by rw [hwk]
 obtain ⟨l', cc, args', hρl, hA, hy⟩ := hrun ρ b a cs w hf hr
 obtain ⟨bl, cl, r, hρl', hwl, hO⟩ := loop_live hr hl
 rw [hρl] at hρl'; cases hρl'
 simp only [ObjR] at hO
 obtain ⟨hst, hpe, hfn, ⟨htm, hn⟩, hps, has, hbo, _⟩ := hO
 have hsz : args'.size = r.params.size := by
  have := hA.len; rw [← hps] at hlen; simp at this hlen; omega
 have hyr := run_yield (P := P) hwl hsz
 rw [← hy] at hyr
 have hfold : (r.params.zip args').foldl (fun tmps (x : Tmp × Value) => tmps.setIfInBounds x.1 x.2) r.tmps = (ps.zip args'.toList).foldl (fun tmps (x : Tmp × Value) => tmps.setIfInBounds x.1 x.2) r.tmps := by
  rw [← Array.foldl_toList, Array.toList_zip, hps]
 have hyr' : (execOp a.eval o).run P w = .ok (.round l' f ((ps.zip args'.toList).foldl (fun tmps (x : Tmp × Value) => tmps.setIfInBounds x.1 x.2) r.tmps) as bo) w := by
  rw [hyr, ← hfold, hfn, has, hbo]
 have hround := step_round (k := k) (cs := cs) (rest := rest) (b := b) ho hw hd hyr'
 obtain ⟨htm', hn'⟩ := roundTm_R n (ps := ps) htm hn hA
 generalize hT : (ps.zip args'.toList).foldl (fun (tmps : Array Value) (x : Tmp × Value) => tmps.setIfInBounds x.1 x.2) r.tmps = tmps' at *
 obtain ⟨b2, hb2⟩ : ∃ b2 : Frame, b2 = { (default : Frame) with fn := f, kind := .normal, roundOf := some l' } := ⟨_, rfl⟩
 have hfr : Frame.round l' f tmps' as bo .normal = b2.atR { tmps := tmps', defers := [] } [.code as, .beginRound, .code bo] := by subst hb2; rfl
 have hb2k : b2.kind = .normal := by subst hb2; rfl
 have hb2r : b2.roundOf = some l' := by subst hb2; rfl
 have hb2f : b2.fn = f := by subst hb2; rfl
 rw [hfr] at hround
 have hF0 : Fst P ρ (some l) f { tm := roundTm n ps args tm, n := n, defers := [], pc := none, wk := fr.wk } b2 { tmps := tmps', defers := [] } (b.atR a (.inRegion ops (i :: rest) :: k) :: cs) :=
  ⟨hb2f, ⟨l', cc, hρl, hb2r⟩, htm', hn', trivial, .inl hb2k⟩
 obtain ⟨ρ1, a1, cs1, w1, hev1, hF1, hm1, hs1⟩ := he.code h1 ρ b2 _ _ w [.beginRound, .code bo] hF0 hr (hfresh.first (by omega))
 rw [hb2k] at hm1
 have hc1 := hm1.normal
 subst hc1
 simp only [ArrR] at hs1
 obtain ⟨bl1, cl1, r1, hρ1, hwl1, hO1⟩ := loop_live hev1.rel hl1
 have := hev1.ext _ _ hρl
 rw [this] at hρ1; cases hρ1
 have hO1' := hO1
 simp only [ObjR] at hO1
 have hbeg := run_beginRound (P := P) hwl1 hO1.1
 have hsb := stepR_beginRound (P := P) (b := b2) (a := a1) (k := [.code bo]) (cs := b.atR a (.inRegion ops (i :: rest) :: k) :: cs) hb2r hbeg
 have hch1 := putObj_chg (o' := .loop { r1 with state := .busy }) hwl1
 have hevb := evo_chg (ob := .loop .busy none f2 tm2 n2 ps2 as2 bo2 d2) hev1.rel hGl hl1 this hch1 ⟨rfl, hO1.2⟩
 have hF1' := (hF1.mono hevb.ext).wk { fr1.wk with heap := fr1.wk.heap.put l (some (.loop .busy none f2 tm2 n2 ps2 as2 bo2 d2)) }
 have hev1b := hev1.trans hevb
 have hfr1 : Fresh ρ1 { fr1.wk with heap := fr1.wk.heap.put l (some (.loop .busy none f2 tm2 n2 ps2 as2 bo2 d2)) } fr2.wk :=
  Fresh.second (a := fr.wk) (fun i h1 h2 => hfresh i h1 (by omega)) hev1b
 obtain ⟨ρ2, a2, cs2, w2, hev2, hF2, hm2, hs2⟩ := he.code h2 ρ1 b2 a1 _ _ [] hF1' hevb.rel hfr1
 rw [hb2k] at hm2
 have hc2 := hm2.normal
 subst hc2
 obtain ⟨bl2, cl2, r2, hρ2, hwl2, hO2⟩ := loop_live hev2.rel hl2
 have hρl2 := hev2.ext _ _ this
 rw [hρl2] at hρ2; cases hρ2
 simp only [ObjR] at hO2
 have hend := run_endRound (P := P) jump hwl2
 have hch2 := putObj_chg (o' := .loop { r2 with state := if jump.isNone then .ready else .done, pending := jump }) hwl2
 have heve := evo_chg (ob := .loop (if jump.isNone then .ready else .done) jump f3 tm3 n3 ps3 as3 bo3 d3) hev2.rel hGl hl2 hρl2 hch2 ⟨rfl, rfl, hO2.2.2⟩
 have hall := (hev1b.trans hev2).trans heve
 have hback : Steps P (lone (b2.atR a1 [.code bo]) (b.atR a (.inRegion ops (i :: rest) :: k) :: cs) (w1.putObj l' (.loop { r1 with state := .busy })))
   (lone (b.atR (a.put o.dst (.bool jump.isNone)) (.inRegion ops rest :: k)) cs (w2.putObj l' (.loop { r2 with state := if jump.isNone then .ready else .done, pending := jump }))) := by
  have hfin := Frame.finish_atR b a ops i rest k (.bool jump.isNone)
  rw [ho] at hfin
  simp only [Option.bind_some] at hfin
  rw [← hfin]
  rcases hx with ⟨rfl, rfl⟩ | ⟨rfl, rfl⟩ | ⟨id, rfl, rfl⟩
  ·simp only [ArrR] at hs2
   exact hs2.trans (Steps.one (stepR_round_end hb2r hb2k hend))
  ·obtain ⟨k0, hs2⟩ := hs2
   exact hs2.trans (Steps.one (stepR_round_ret hb2r hb2k hend))
  ·obtain ⟨k0, hs2, hex⟩ := hs2
   exact hs2.trans (Steps.one (stepR_round_exit hb2r hb2k (by rw [hex]; rfl) hend))
 obtain ⟨h3, h4⟩ := ((hf.mono hall.ext).wk _).put (.bool jump.isNone) hput
 exact ⟨ρ2, _, cs, _, by rw [h4]; exact hall, h3, CsMod.refl _ _, .inl ⟨rfl, _, rfl⟩, (Steps.head hround hs1).trans (Steps.head hsb hback)⟩
end
section
variable {P : Program} {ρ : Rho} {G : Nat}
theorem run_builtin_append {f : Operand → Value} {args : Array Operand} {argTypes : Array TypeId} {dst : Option Tmp} {ty : TypeId} {pos : String} {after : Array Edge} {guard : Option (Nat × Bool)} {s x : Operand} {t tx : TypeId}
  (ha : args.toList = [s, x]) (ht : argTypes.toList = [t, tx]) {w w' : World} {v : Value} (h : (Builtin.append_ #[t, tx] ty #[f s, f x]).run P w = .ok v w') :
  (execOp f { dst := dst, op := .call { callee := .builtin .append, args := args, argTypes := argTypes }, type := ty, pos := pos, after := after, guard := guard }).run P w = .ok (.value v) w' := by
 obtain rfl : args = #[s, x] := by cases args; simp at ha; simp [ha]
 obtain rfl : argTypes = #[t, tx] := by cases argTypes; simp at ht; simp [ht]
 have hm : (#[s, x] : Array Operand).map f = #[f s, f x] := by simp
 simp only [execOp, resolve, invoke, builtin, hm, Sem.run_bind, Sem.run_pure, Result.andThen_ok, h]
theorem effOp_sound (hG : G = P.globals.size) {ev : Ev} (he : EvSound P G ev) {rnd : Option Nat} {fn : Nat} {o : Oper} {fr fr' : Fr} {e : Ex} (h : effOp P ev rnd o fr = some (e, fr')) : OpOk P G rnd fn o fr e fr' := by
 obtain ⟨dst, op, ty, pos, after, guard⟩ := o
 cases op <;> try (simp [effOp] at h; done)
 case store t x v =>
  simp only [effOp] at h
  split at h
  ·rename_i i off u hx hu
   split at h
   ·rename_i σ hσ
    obtain ⟨rfl, hput⟩ := fin_some h
    intro ρ b a cs w ops j rest k ho hw hf hr hfresh
    have hE := hf.env hr hG
    obtain ⟨b', c', hρ, hx'⟩ := (hE x _ hx).ptr_inv
    obtain ⟨w', hrun, hev⟩ := store_sound hG hr (hE v _ hu) hρ hσ
    exact fin_skip ho hw (by simp) hf (by refine run_u ?_; rw [hx']; exact hrun) hev hput
   ·cases h
  ·cases h
 case mapUpdate t m k0 v =>
  simp only [effOp] at h
  split at h
  ·rename_i i kv u hm hk hu
   split at h
   ·rename_i σ hσ
    obtain ⟨rfl, hput⟩ := fin_some h
    intro ρ b a cs w ops j rest k ho hw hf hr hfresh
    have hE := hf.env hr hG
    have hm' : ∃ b' c', ρ i = some (b', c') ∧ a.eval m = .map (some b') := by
     have := hE m _ hm
     generalize a.eval m = y at this
     cases this with | map _ b' c' h => exact ⟨b', c', h, rfl⟩
    obtain ⟨b', c', hρ, hm'⟩ := hm'
    obtain ⟨hp, w', hrun, hev⟩ := mapUpdate_sound hG hr (hE v _ hu) hρ hσ
    have hk' := plain_eq hp (hE k0 _ hk)
    exact fin_skip ho hw (by simp) hf (by refine run_u ?_; rw [hm', hk']; exact hrun) hev hput
   ·cases h
  ·cases h
 case insert t m k0 v =>
  simp only [effOp] at h
  split at h
  ·rename_i i kv u hm hk hu
   split at h
   ·rename_i σ hσ
    obtain ⟨rfl, hput⟩ := fin_some h
    intro ρ b a cs w ops j rest k ho hw hf hr hfresh
    have hE := hf.env hr hG
    have hm' : ∃ b' c', ρ i = some (b', c') ∧ a.eval m = .map (some b') := by
     have := hE m _ hm
     generalize a.eval m = y at this
     cases this with | map _ b' c' h => exact ⟨b', c', h, rfl⟩
    obtain ⟨b', c', hρ, hm'⟩ := hm'
    obtain ⟨hp, w', hrun, hev⟩ := mapUpdate_sound hG hr (hE v _ hu) hρ hσ
    have hk' := plain_eq hp (hE k0 _ hk)
    exact fin_skip ho hw (by simp) hf (by refine run_u ?_; rw [hm', hk']; exact hrun) hev hput
   ·cases h
  ·cases h
 case range t x =>
  simp only [effOp] at h
  split at h
  ·rename_i v hx
   split at h
   ·rename_i ob hob
    obtain ⟨rfl, hput⟩ := fin_some h
    intro ρ b a cs w ops j rest k ho hw hf hr hfresh
    have hE := hf.env hr hG
    have hwk := put_wk hput
    obtain ⟨v', w', ρ', hrun, hv, hev⟩ := range_sound hr (hfresh _ (Nat.le_refl _) (by rw [hwk]; exact Nat.lt_succ_self _)) (hE x _ hx) hob
    exact fin_value ho hw (by simp) hf (run_v hrun) hv hev hput
   ·cases h
  ·cases h
 case next x s =>
  simp only [effOp] at h
  split at h
  ·rename_i i hx
   obtain ⟨hb, h⟩ := cond_some h
   split at h
   ·rename_i v σ hn
    obtain ⟨rfl, hput⟩ := fin_some h
    intro ρ b a cs w ops j rest k ho hw hf hr hfresh
    have hE := hf.env hr hG
    obtain ⟨b', c', hρ, hx'⟩ := (hE x _ hx).ptr_inv
    obtain ⟨v', w', hrun, hv, hev⟩ := next_sound (P := P) hr (by rw [hG]; exact Nat.le_of_ble_eq_true hb) hρ (ty := ty) hn
    exact fin_value ho hw (by simp) hf (run_v (by rw [hx']; exact hrun)) hv hev hput
   ·cases h
  ·cases h
 case panic x =>
  simp only [effOp] at h
  split at h
  ·rename_i t v hx
   cases h
   intro ρ b a cs w ops j rest k ho hw hf hr hfresh
   have hE := hf.env hr hG
   obtain ⟨v', hx', hv⟩ := (hE x _ hx).iface_inv
   have hrun : (execOp a.eval { dst := dst, op := .panic x, type := ty, pos := pos, after := after, guard := guard }).run P w = .halt (.panic (.iface t v')) w := by
    simp only [execOp, Instr.panic, hx', Sem.run_bind, run_goPanic, Result.andThen_halt]
   exact ⟨ρ, a, cs, w, Evo.refl hr, hf, CsMod.refl _ _, .inr ⟨by simp, rfl⟩, [{ v := .iface t v', recovered := false }], _, ⟨⟨.iface t v v' hv, rfl, rfl⟩, trivial⟩, Steps.one (step_panic ho hw (by simp) hrun)⟩
  ·cases h
 case defer c =>
  simp only [effOp] at h
  split at h
  ·rename_i x g args hcal htgt
   split at h
   ·rename_i f hput
    cases h
    intro ρ b a cs w ops j rest k ho hw hf hr hfresh
    have hE := hf.env hr hG
    obtain ⟨d', hd', hrun⟩ := target_defer hE hcal htgt ty
    have hb : b.roundOf = none := hf.rnd
    have hrun' : (execOp a.eval { dst := dst, op := .defer c, type := ty, pos := pos, after := after, guard := guard }).run P w = .ok (.defer d') w := by
     simp only [execOp, Sem.run_bind, hrun, Result.andThen_ok, Sem.run_pure]
    have hst := step_deferOp (P := P) (k := k) (cs := cs) (rest := rest) (b := b) ho hw hb hrun'
    have hf1 : Fst P ρ none fn { fr with defers := { target := .fn (.func g) #[], args := ⟨args⟩ } :: fr.defers } b { a with defers := d' :: a.defers } cs :=
     ⟨hf.fn, hf.rnd, hf.tm, hf.n, ⟨hd', hf.dfs⟩, hf.pc⟩
    obtain ⟨h3, h4⟩ := hf1.put (undefR ρ) hput
    exact ⟨ρ, _, cs, w, by rw [h4]; exact Evo.refl hr, h3, CsMod.refl _ _, .inl ⟨rfl, undef, by cases dst <;> rfl⟩, Steps.one hst⟩
   ·cases h
  ·cases h
 case call c =>
  have hnd : ∀ c', ({ dst := dst, op := .call c, type := ty, pos := pos, after := after, guard := guard } : Oper).op ≠ .defer c' := by simp
  have gen : (match target P (fr.env P) c with
    | some (.enter f args) => match (fnAt P f).map (·.body.isSome) with
     | some true => (match ev.call f args none fr.wk with
      | some ⟨.ret v, _, σ⟩ => (match ({ fr with wk := σ } : Fr).put dst v with | some f => some (Ex.normal, f) | none => none)
      | some ⟨.pan ch, _, σ⟩ => some (.panic ch, { fr with wk := σ })
      | none => none)
     | some false => (match plainOp P (fr.env P) { dst := dst, op := .call c, type := ty, pos := pos, after := after, guard := guard } with
      | some v => (match ({ fr with wk := fr.wk } : Fr).put dst v with | some f => some (Ex.normal, f) | none => none)
      | none => none)
     | none => none
    | some (.round l args) => match fr.wk.heap.get l with
     | some (.loop .ready none f tm n params assign body _) =>
      bif !(Nat.beq args.length params.length && Nat.ble P.globals.size l) then none else
      match ev.code (some l) f assign { tm := roundTm n params args tm, n := n, defers := [], pc := none, wk := fr.wk } with
      | some (.normal, fr1) => match fr1.wk.heap.get l with
       | some (.loop .ready none f2 tm2 n2 params2 assign2 body2 d2) =>
        match ev.code (some l) f body { fr1 with wk := { fr1.wk with heap := fr1.wk.heap.put l (some (.loop .busy none f2 tm2 n2 params2 assign2 body2 d2)) } } with
        | some (x, fr2) =>
         (match fr2.wk.heap.get l with
         | some (.loop _ _ f3 tm3 n3 params3 assign3 body3 d3) =>
          (match x with
          | .normal => (match ({ fr with wk := { fr2.wk with heap := fr2.wk.heap.put l (some (.loop .ready none f3 tm3 n3 params3 assign3 body3 d3)) } } : Fr).put dst (.bool true) with | some f => some (Ex.normal, f) | none => none)
          | .ret => (match ({ fr with wk := { fr2.wk with heap := fr2.wk.heap.put l (some (.loop .done (some .ret) f3 tm3 n3 params3 assign3 body3 d3)) } } : Fr).put dst (.bool false) with | some f => some (Ex.normal, f) | none => none)
          | .exit id => (match ({ fr with wk := { fr2.wk with heap := fr2.wk.heap.put l (some (.loop .done (some (.exit id)) f3 tm3 n3 params3 assign3 body3 d3)) } } : Fr).put dst (.bool false) with | some f => some (Ex.normal, f) | none => none)
          | .panic _ => none)
         | _ => none)
        | none => none
       | _ => none
      | _ => none
     | _ => none
    | none => none) = some (e, fr') → OpOk P G rnd fn { dst := dst, op := .call c, type := ty, pos := pos, after := after, guard := guard } fr e fr' := by
   intro h
   split at h
   ·rename_i g args htgt
    split at h
    ·rename_i hfn
     obtain ⟨fnv, hfv, hbody⟩ := Option.map_eq_some_iff.1 hfn
     have hrun : ∀ ρ b a cs w, Fst P ρ rnd fn fr b a cs → Rel G ρ fr.wk w → ∃ args' : Array Value, LR ρ args args'.toList ∧
       (execOp a.eval { dst := dst, op := .call c, type := ty, pos := pos, after := after, guard := guard }).run P w = .ok (.enter g args') w := fun ρ b a cs w hf hr => by
      obtain ⟨args', h1, h2⟩ := target_enter (hf.env hr hG) htgt hfv hbody ty
      exact ⟨args', h1, h2 w⟩
     split at h
     ·rename_i v pc σ hcall
      obtain ⟨rfl, hput⟩ := fin_some h
      exact call_ok he hcall hnd hrun ⟨rfl, hput⟩
     ·rename_i ch pc σ hcall
      cases h
      exact call_ok he hcall hnd hrun ⟨rfl, rfl⟩
     ·cases h
    ·split at h
     ·rename_i v hv
      obtain ⟨rfl, hput⟩ := fin_some h
      intro ρ b a cs w ops j rest k ho hw hf hr hfresh
      obtain ⟨h1, h2⟩ := plainOp_sound (hf.env hr hG) hv
      exact fin_value ho hw hnd hf (h2 w) h1 (Evo.refl hr) hput
     ·cases h
    ·cases h
   ·rename_i l args htgt
    have hrun : ∀ ρ b a cs w, Fst P ρ rnd fn fr b a cs → Rel G ρ fr.wk w → ∃ (l' cc : Nat) (args' : Array Value), ρ l = some (l', cc) ∧ LR ρ args args'.toList ∧
      (execOp a.eval { dst := dst, op := .call c, type := ty, pos := pos, after := after, guard := guard }).run P w = (Instr.yield l' args').run P w := fun ρ b a cs w hf hr => by
     obtain ⟨l', cc, args', h1, h2, h3⟩ := target_round (hf.env hr hG) htgt ty
     exact ⟨l', cc, args', h1, h2, h3 w⟩
    split at h
    ·rename_i f tm n params assign body d0 hl
     have hb := (cond_none h).1
     replace h := (cond_none h).2
     simp only [Bool.not_eq_false', Bool.and_eq_true] at hb
     have hlen := Nat.eq_of_beq_eq_true hb.1
     have hGl : G ≤ l := by rw [hG]; exact Nat.le_of_ble_eq_true hb.2
     split at h
     ·rename_i fr1 h1
      split at h
      ·rename_i f2 tm2 n2 params2 assign2 body2 d2 hl1
       split at h
       ·rename_i x fr2 h2
        split at h
        ·rename_i st3 pend3 f3 tm3 n3 params3 assign3 body3 d3 hl2
         split at h
         ·obtain ⟨rfl, hput⟩ := fin_some h
          exact round_ok he (jump := none) hnd hrun hl hlen hGl h1 hl1 h2 hl2 (.inl ⟨rfl, rfl⟩) hput
         ·obtain ⟨rfl, hput⟩ := fin_some h
          exact round_ok he (jump := some .ret) hnd hrun hl hlen hGl h1 hl1 h2 hl2 (.inr (.inl ⟨rfl, rfl⟩)) hput
         ·rename_i id
          obtain ⟨rfl, hput⟩ := fin_some h
          exact round_ok he (jump := some (.exit id)) hnd hrun hl hlen hGl h1 hl1 h2 hl2 (.inr (.inr ⟨id, rfl, rfl⟩)) hput
         ·cases h
        ·cases h
       ·cases h
      ·cases h
     ·cases h
    ·cases h
   ·cases h
  obtain ⟨callee, args, argTypes⟩ := c
  cases callee with
  | value x => simp only [effOp] at h; exact gen h
  | invoke r m => simp only [effOp] at h; exact gen h
  | builtin bi =>
   cases bi <;> simp only [effOp] at h <;> try exact gen h
   case append =>
    split at h
    ·rename_i s x t tx hargs htys
     split at h
     ·rename_i sv xv hs hx
      split at h
      ·rename_i v σ ha
       obtain ⟨rfl, hput⟩ := fin_some h
       intro ρ b a cs w ops j rest k ho hw hf hr hfresh
       have hE := hf.env hr hG
       have hwk := put_wk hput
       obtain ⟨v', w', ρ', hrun, hv, hev⟩ := append_sound (ty := ty) hG hr (by rw [hwk] at hfresh; exact hfresh) (hE s _ hs) (hE x _ hx) ha
       exact fin_value ho hw (by simp) hf (run_builtin_append hargs htys hrun) hv hev hput
      ·cases h
     ·cases h
    ·cases h
   case recover =>
    split at h
    ·rename_i v older hpc
     split at h
     ·rename_i f hput
      cases h
      exact recover_ok rfl (.inl ⟨v, older, hpc, hput, rfl⟩)
     ·cases h
    ·rename_i hpc
     obtain ⟨rfl, hput⟩ := fin_some h
     exact recover_ok rfl (.inr ⟨hpc, hput, rfl⟩)
    ·cases h
end
section
variable {P : Program} {ρ : Rho} {G : Nat}
theorem cls_defer {o : Oper} (h : cls o ≠ .eff) (c : Call) : o.op ≠ .defer c := by
 intro e; apply h; unfold cls; rw [e]
theorem operS_sound (hG : G = P.globals.size) {ev : Ev} (he : EvSound P G ev) {rnd : Option Nat} {fn : Nat} {o : Oper} {fr fr' : Fr} {e : Ex} (h : operS P ev rnd o fr = some (e, fr')) :
  OpOk P G rnd fn o fr e fr' ∧ fr.wk.next ≤ fr'.wk.next := by
 unfold operS at h
 split at h
 ·rename_i hc
  split at h
  ·rename_i v hv
   split at h
   ·rename_i f hput
    cases h
    refine ⟨?_, by rw [put_wk hput]; exact Nat.le_refl _⟩
    intro ρ b a cs w ops j rest k ho hw hf hr hfresh
    obtain ⟨v', h1, h2⟩ := pureOp_sound (hf.env hr hG) hv
    exact fin_value ho hw (cls_defer (by rw [hc]; simp)) hf (h2 w) h1 (Evo.refl hr) hput
   ·cases h
  ·cases h
 ·rename_i hc
  split at h
  ·rename_i v hv
   split at h
   ·rename_i f hput
    cases h
    refine ⟨?_, by rw [put_wk hput]; exact Nat.le_refl _⟩
    intro ρ b a cs w ops j rest k ho hw hf hr hfresh
    obtain ⟨v', h1, h2⟩ := readOp_sound (hf.env hr hG) hr hv
    exact fin_value ho hw (cls_defer (by rw [hc]; simp)) hf h2 h1 (Evo.refl hr) hput
   ·cases h
  ·cases h
 ·rename_i hc
  split at h
  ·rename_i ob mk hal
   split at h
   ·rename_i f hput
    cases h
    refine ⟨?_, by rw [put_wk hput]; exact Nat.le_succ _⟩
    intro ρ b a cs w ops j rest k ho hw hf hr hfresh
    have hwk := put_wk hput
    obtain ⟨ob', mk', h1, h2, h3⟩ := allocOp_sound (hf.env hr hG) hal
    have hev := evo_obj hr (hfresh _ (Nat.le_refl _) (by rw [hwk]; exact Nat.lt_succ_self _)) h1
    exact fin_value ho hw (cls_defer (by rw [hc]; simp)) hf (h2 w) (h3 _ _ _ (upd_same _ _ _)) hev hput
   ·cases h
  ·cases h
 ·obtain ⟨h1, h2⟩ := chk_some h
  exact ⟨effOp_sound hG he h1, h2⟩
def OpsOk (P : Program) (G : Nat) (rnd : Option Nat) (fn : Nat) (ops : Array Oper) (l : List Nat) (fr : Fr) (e : Ex) (fr' : Fr) : Prop :=
 ∀ ρ b a cs w k, Fst P ρ rnd fn fr b a cs → Rel G ρ fr.wk w → Fresh ρ fr.wk fr'.wk →
  ∃ ρ' a' cs' w', Evo G ρ fr.wk w ρ' fr'.wk w' ∧ Fst P ρ' rnd fn fr' b a' cs' ∧ CsMod b.kind cs cs' ∧ ArrR P ρ' (lone (b.atR a (.inRegion ops l :: k)) cs w) b k e a' cs' w'
theorem ArrR.pass {m : Machine} {b : Frame} {x : Item} {k : List Item} {e : Ex} {a : Act} {cs : List Frame} {w : World} (he : e ≠ .normal) (hx : x.plain = true) (h : ArrR P ρ m b (x :: k) e a cs w) : ArrR P ρ m b k e a cs w := by
 cases e with
 | normal => exact absurd rfl he
 | exit id => obtain ⟨k0, h1, h2⟩ := h; exact ⟨k0, h1, h2.trans (exitTo_plain hx id k)⟩
 | ret => exact h
 | panic ch => exact h
theorem opsS_sound (hG : G = P.globals.size) {ev : Ev} (he : EvSound P G ev) {rnd : Option Nat} {fn : Nat} {ops : Array Oper} : ∀ {l : List Nat} {fr fr' : Fr} {e : Ex}, opsS P ev rnd ops l fr = some (e, fr') →
  OpsOk P G rnd fn ops l fr e fr' ∧ fr.wk.next ≤ fr'.wk.next
 | [], fr, fr', e, h => by
  simp only [opsS] at h; cases h
  refine ⟨?_, Nat.le_refl _⟩
  intro ρ b a cs w k hf hr _
  exact ⟨ρ, a, cs, w, Evo.refl hr, hf, CsMod.refl _ _, Steps.one stepR_region_end⟩
 | i :: rest, fr, fr', e, h => by
  simp only [opsS] at h
  split at h
  ·cases h
  ·rename_i o ho
   split at h
   ·rename_i hwant
    split at h
    ·rename_i f1 h1
     obtain ⟨ok1, n1⟩ := operS_sound (fn := fn) hG he h1
     obtain ⟨ok2, n2⟩ := opsS_sound hG he (fn := fn) h
     refine ⟨?_, Nat.le_trans n1 n2⟩
     intro ρ b a cs w k hf hr hfresh
     obtain ⟨ρ1, a1, cs1, w1, ev1, hf1, m1, _, s1⟩ := ok1 ρ b a cs w ops i rest k ho (wantedS_sound hf hwant) hf hr (hfresh.first n2)
     obtain ⟨ρ2, a2, cs2, w2, ev2, hf2, m2, s2⟩ := ok2 ρ1 b a1 cs1 w1 k hf1 ev1.rel (hfresh.second ev1)
     exact ⟨ρ2, a2, cs2, w2, ev1.trans ev2, hf2, m1.trans m2, ArrR.of_steps s1 s2⟩
    ·rename_i r hne
     obtain ⟨ok1, n1⟩ := operS_sound (fn := fn) hG he h
     refine ⟨?_, n1⟩
     intro ρ b a cs w k hf hr hfresh
     obtain ⟨ρ1, a1, cs1, w1, ev1, hf1, m1, _, s1⟩ := ok1 ρ b a cs w ops i rest k ho (wantedS_sound hf hwant) hf hr hfresh
     exact ⟨ρ1, a1, cs1, w1, ev1, hf1, m1, ArrR.pass (fun e0 => hne _ (by rw [h, e0])) rfl s1⟩
   ·rename_i hwant
    split at h
    ·rename_i f1 hput
     obtain ⟨ok2, n2⟩ := opsS_sound hG he (fn := fn) h
     have hwk := put_wk hput
     refine ⟨?_, by rw [hwk] at n2; exact n2⟩
     intro ρ b a cs w k hf hr hfresh
     have hw := wantedS_sound hf hwant
     have hsk := stepR_op_skip (P := P) (b := b) (a := a) (k := k) (cs := cs) (w := w) (ops := ops) (i := i) (rest := rest) (by rw [ho]; simpa using hw)
     rw [ho] at hsk
     simp only [Option.bind_some] at hsk
     obtain ⟨hf1, _⟩ := hf.put (undefR ρ) hput
     obtain ⟨ρ2, a2, cs2, w2, ev2, hf2, m2, s2⟩ := ok2 ρ b (a.put o.dst undef) cs w k hf1 (by rw [hwk]; exact hr) (by rw [hwk]; exact hfresh)
     rw [hwk] at ev2
     exact ⟨ρ2, a2, cs2, w2, ev2, hf2, m2, ArrR.of_steps (Steps.one hsk) s2⟩
    ·cases h
   ·cases h
end
end Go.Sh
