/- Shadow evaluation, 17: operations that write or call. -/
import Derived.Test.YtjipcihcldngbaaGreatDoorShP
import Derived.RangeFuncRecord
namespace Go.Sh
variable {P : Program} {ρ : Rho} {G : Nat}

theorem chk_some {fr : Fr} {r : Option (Ex × Fr)} {e : Ex} {f : Fr} (h : chk fr r = some (e, f)) : r = some (e, f) ∧ fr.wk.next ≤ f.wk.next := by
  unfold chk at h
  split at h
  · obtain ⟨hb, h⟩ := cond_some h
    cases h
    exact ⟨rfl, Nat.le_of_ble_eq_true hb⟩
  · cases h

theorem Fresh.first {ρ : Rho} {a b c : SW} (h : Fresh ρ a c) (hb : b.next ≤ c.next) : Fresh ρ a b := fun i h1 h2 => h i h1 (by omega)
theorem Fresh.second {ρ ρ1 : Rho} {a b c : SW} {w w1 : World} (h : Fresh ρ a c) (k : Evo G ρ a w ρ1 b w1) : Fresh ρ1 b c := fun i h1 h2 => by
  rw [k.only i (.inr h1)]; exact h i (by have := k.next; omega) h2

section fin
variable {rnd : Option Nat} {fn : Nat} {o : Oper} {fr fr' : Fr} {b : Frame} {a : Act} {cs : List Frame} {w w' : World} {ops : Array Oper} {i : Nat} {rest : List Nat} {k : List Item}

theorem put_wk {fr fr' : Fr} {d : Option Tmp} {v : Value} (h : fr.put d v = some fr') : fr'.wk = fr.wk := by
  cases d with
  | none => simp only [Fr.put] at h; cases h; rfl
  | some t => simp only [Fr.put] at h; obtain ⟨_, h⟩ := cond_some h; cases h; rfl

theorem fin_value (ho : ops[i]? = some o) (hw : Region.wanted o (yielded ops a.tmps) = true) (hd : ∀ c, o.op ≠ .defer c) (hf : Fst P ρ rnd fn fr b a cs) {ρ' : Rho} {σ : SW} {v v' : Value}
    (hrun : (execOp a.eval o).run P w = .ok (.value v') w') (hv : VR ρ' v v') (hev : Evo G ρ fr.wk w ρ' σ w') (hput : ({ fr with wk := σ } : Fr).put o.dst v = some fr') :
    ∃ ρ' a' cs' w', Evo G ρ fr.wk w ρ' fr'.wk w' ∧ Fst P ρ' rnd fn fr' b a' cs' ∧ CsMod b.kind cs cs' ∧ TmpsOk o .normal a a' ∧
      ArrR P ρ' (lone (b.atR a (.inRegion ops (i :: rest) :: k)) cs w) b (.inRegion ops rest :: k) .normal a' cs' w' := by
  obtain ⟨h1, h2⟩ := ((hf.mono hev.ext).wk σ).put hv hput
  refine ⟨ρ', a.put o.dst v', cs, w', by rw [h2]; exact hev, h1, CsMod.refl _ _, .inl ⟨rfl, v', rfl⟩, Steps.one (step_value ho hw hd hrun)⟩
theorem fin_skip (ho : ops[i]? = some o) (hw : Region.wanted o (yielded ops a.tmps) = true) (hd : ∀ c, o.op ≠ .defer c) (hf : Fst P ρ rnd fn fr b a cs) {ρ' : Rho} {σ : SW}
    (hrun : (execOp a.eval o).run P w = .ok .skip w') (hev : Evo G ρ fr.wk w ρ' σ w') (hput : ({ fr with wk := σ } : Fr).put o.dst undef = some fr') :
    ∃ ρ' a' cs' w', Evo G ρ fr.wk w ρ' fr'.wk w' ∧ Fst P ρ' rnd fn fr' b a' cs' ∧ CsMod b.kind cs cs' ∧ TmpsOk o .normal a a' ∧
      ArrR P ρ' (lone (b.atR a (.inRegion ops (i :: rest) :: k)) cs w) b (.inRegion ops rest :: k) .normal a' cs' w' := by
  obtain ⟨h1, h2⟩ := ((hf.mono hev.ext).wk σ).put (undefR ρ') hput
  exact ⟨ρ', a.put o.dst undef, cs, w', by rw [h2]; exact hev, h1, CsMod.refl _ _, .inl ⟨rfl, undef, rfl⟩, Steps.one (step_skip_v ho hw hd hrun)⟩
end fin

theorem fin_some {fr fr' : Fr} {σ : SW} {d : Option Tmp} {v : Value} {e : Ex}
    (h : (match ({ fr with wk := σ } : Fr).put d v with | some f => some (Ex.normal, f) | none => none) = some (e, fr')) : e = .normal ∧ ({ fr with wk := σ } : Fr).put d v = some fr' := by
  split at h
  · rename_i f hf; cases h; exact ⟨rfl, hf⟩
  · cases h

theorem roundTm_R : ∀ (n : Nat) {ps : List Tmp} {as as' : List Value} {t : Tr Value} {tmps : Array Value}, TmR ρ t tmps → n ≤ tmps.size → LR ρ as as' →
    TmR ρ (roundTm n ps as t) ((ps.zip as').foldl (fun (tmps : Array Value) (x : Tmp × Value) => tmps.setIfInBounds x.1 x.2) tmps) ∧ n ≤ ((ps.zip as').foldl (fun (tmps : Array Value) (x : Tmp × Value) => tmps.setIfInBounds x.1 x.2) tmps).size
  | n, [], as, as', t, tmps, h, hn, _ => ⟨by simpa [roundTm] using h, by simpa using hn⟩
  | n, p :: ps, [], as', t, tmps, h, hn, hl => by
    have := hl.nil_inv; subst this
    exact ⟨by simpa [roundTm] using h, by simpa using hn⟩
  | n, p :: ps, v :: as, as', t, tmps, h, hn, hl => by
    obtain ⟨v', r', rfl, hv, hr⟩ := hl.cons_inv
    simp only [roundTm, List.zip_cons_cons, List.foldl_cons]
    refine roundTm_R n ?_ (by simpa using hn) hr
    cases hb : Nat.blt p n with
    | true => exact h.put (Nat.lt_of_lt_of_le (blt_lt hb) hn) hv
    | false =>
      intro j u hu
      simp only [cond_false, Tr.get_put] at hu
      by_cases e : p = j
      · rw [if_pos e] at hu; cases hu
      · rw [if_neg e] at hu
        obtain ⟨u', h1, h2⟩ := h j u hu
        exact ⟨u', by rw [Array.getElem?_setIfInBounds_ne e]; exact h1, h2⟩

theorem exitTo_region (id : Nat) (ops : Array Oper) (l : List Nat) (k : List Item) : exitTo id (.inRegion ops l :: k) = exitTo id k := rfl

/-- A call. -/
theorem call_ok {ev : Ev} (he : EvSound P G ev) {rnd : Option Nat} {fn : Nat} {o : Oper} {fr fr' : Fr} {e : Ex} {g : FuncId} {args : List Value} {r : CR} (hcall : ev.call g args none fr.wk = some r)
    (hd : ∀ c, o.op ≠ .defer c) (hrun : ∀ ρ b a cs w, Fst P ρ rnd fn fr b a cs → Rel G ρ fr.wk w → ∃ args' : Array Value, LR ρ args args'.toList ∧ (execOp a.eval o).run P w = .ok (.enter g args') w)
    (hres : match r.e with
      | .ret v => e = .normal ∧ ({ fr with wk := r.w } : Fr).put o.dst v = some fr'
      | .pan ch => e = .panic ch ∧ fr' = { fr with wk := r.w }) : OpOk P G rnd fn o fr e fr' := by
  intro ρ b a cs w ops i rest k ho hw hf hr hfresh
  obtain ⟨args', hA, hrn⟩ := hrun ρ b a cs w hf hr
  have hwk : fr'.wk = r.w := by
    cases hre : r.e with
    | ret v => rw [hre] at hres; exact put_wk hres.2
    | pan ch => rw [hre] at hres; rw [hres.2]
  obtain ⟨ρ', frl, cs', w', hev, hpc, hmod, hsteps, hfn, hk, hdf, fnv, hfv, hleav⟩ := he.call hcall ρ args' .normal (b.atR a (.inRegion ops (i :: rest) :: k) :: cs) w hA (.inl rfl) hr (by rw [← hwk]; exact hfresh)
  have hcs := hmod.normal
  subst hcs
  have henter := step_enter (k := k) (cs := cs) (rest := rest) (b := b) ho hw hd hrn
  cases hre : r.e with
  | ret v =>
    rw [hre] at hres hleav
    obtain ⟨rfl, hput⟩ := hres
    obtain ⟨v', hv, hm, hrs⟩ := hleav
    have hl : frl.leaving P w' (.returned v') := ⟨hm, hdf, hk, fnv, by rw [hfn]; exact hfv, hrs⟩
    have hback := step_leave_returned (P := P) (c := b.atR a (.inRegion ops (i :: rest) :: k)) (cs := cs) hl
    rw [Frame.finish_atR, ho] at hback
    obtain ⟨h1, h2⟩ := ((hf.mono hev.ext).wk r.w).put hv hput
    exact ⟨ρ', a.put o.dst v', cs, w', by rw [hwk]; exact hev, h1, CsMod.refl _ _, .inl ⟨rfl, v', rfl⟩, (Steps.head henter hsteps).trans (Steps.one hback)⟩
  | pan ch =>
    rw [hre] at hres hleav
    obtain ⟨rfl, rfl⟩ := hres
    obtain ⟨ch', hc, hm⟩ := hleav
    have hl : frl.leaving P w' (.panicked ch') := ⟨hm, hdf, fnv, by rw [hfn]; exact hfv⟩
    have hback := step_leave_panicked (P := P) (c := b.atR a (.inRegion ops (i :: rest) :: k)) (cs := cs) hl
    rw [Frame.raise_atR] at hback
    exact ⟨ρ', a, cs, w', hev, (hf.mono hev.ext).wk r.w, CsMod.refl _ _, .inr ⟨by simp, rfl⟩, ch', _, hc, (Steps.head henter hsteps).trans (Steps.one hback)⟩

theorem tryRecover_normal {fr : Frame} (h : fr.kind = .normal) (cs : List Frame) : tryRecover fr cs = none := by
  unfold tryRecover; simp [h]

theorem run_recover {f : Operand → Value} {args : Array Operand} {argTypes : Array TypeId} {dst : Option Tmp} {ty : TypeId} {pos : String} {after : Array Edge} {guard : Option (Nat × Bool)} (w : World) :
    (execOp f { dst := dst, op := .call { callee := .builtin .recover, args := args, argTypes := argTypes }, type := ty, pos := pos, after := after, guard := guard }).run P w = .ok .recover w := by
  simp [execOp, resolve, invoke, builtin]

theorem recover_ok {rnd : Option Nat} {fn : Nat} {fr fr' : Fr} {e : Ex} {args : Array Operand} {argTypes : Array TypeId} {dst : Option Tmp} {ty : TypeId} {pos : String} {after : Array Edge} {guard : Option (Nat × Bool)}
    (hrnd : rnd = none)
    (h : (∃ v older, fr.pc = some ({ v, recovered := false, goexit := false } :: older) ∧ ({ fr with pc := some ({ v, recovered := true } :: older) } : Fr).put dst v = some fr' ∧ e = .normal) ∨
      (fr.pc = none ∧ fr.put dst .nilIface = some fr' ∧ e = .normal)) :
    OpOk P G rnd fn { dst := dst, op := .call { callee := .builtin .recover, args := args, argTypes := argTypes }, type := ty, pos := pos, after := after, guard := guard } fr e fr' := by
  intro ρ b a cs w ops i rest k ho hw hf hr hfresh
  have hb : b.roundOf = none := by have := hf.rnd; rw [hrnd] at this; exact this
  have hd : ∀ c, ({ dst := dst, op := .call { callee := .builtin .recover, args := args, argTypes := argTypes }, type := ty, pos := pos, after := after, guard := guard } : Oper).op ≠ .defer c := by simp
  rcases h with ⟨v, older, hpc, hput, rfl⟩ | ⟨hpc, hput, rfl⟩
  · have hp := hf.pc
    rw [hpc] at hp
    obtain ⟨hk, c0, r, ch', rfl, hm, hc⟩ := hp
    cases ch' with
    | nil => exact hc.elim
    | cons y ys =>
    obtain ⟨⟨hv, h1, h2⟩, hc'⟩ := hc
    obtain ⟨yv, yr, yg⟩ := y
    simp only at hv h1 h2
    subst h1; subst h2
    have ht : tryRecover (b.atR a (.inRegion ops (i :: rest) :: k)) (c0 :: r) = some (yv, { c0 with mode := .panicking ({ v := yv, recovered := true } :: ys) } :: r) := by
      have hk' : (b.atR a (.inRegion ops (i :: rest) :: k)).kind = .deferred := hk
      unfold tryRecover
      simp [hk', hm]
    have hst := step_recover_some (P := P) (k := k) (cs := c0 :: r) (rest := rest) (b := b) ho hw hd hb (run_recover w) ht
    have hf1 : Fst P ρ rnd fn { fr with pc := some ({ v, recovered := true } :: older) } b a ({ c0 with mode := .panicking ({ v := yv, recovered := true } :: ys) } :: r) :=
      ⟨hf.fn, hf.rnd, hf.tm, hf.n, hf.dfs, hk, _, r, _, rfl, rfl, ⟨hv, rfl, rfl⟩, hc'⟩
    obtain ⟨h3, h4⟩ := hf1.put hv hput
    exact ⟨ρ, _, _, w, by rw [h4]; exact Evo.refl hr, h3, .inr ⟨hk, c0, r, _, rfl, rfl⟩, .inl ⟨rfl, _, rfl⟩, Steps.one hst⟩
  · have hp := hf.pc
    rw [hpc] at hp
    have ht : tryRecover (b.atR a (.inRegion ops (i :: rest) :: k)) cs = none := by
      rcases hp with hk | ⟨hk, c0, r, rfl, hm⟩
      · exact tryRecover_normal (show (b.atR a (.inRegion ops (i :: rest) :: k)).kind = .normal from hk) cs
      · have hk' : (b.atR a (.inRegion ops (i :: rest) :: k)).kind = .deferred := hk
        unfold tryRecover
        simp [hk', hm]
    have hst := step_recover_none (P := P) (k := k) (cs := cs) (rest := rest) (b := b) ho hw hd hb (run_recover w) ht
    obtain ⟨h3, h4⟩ := hf.put .nilIface hput
    exact ⟨ρ, _, cs, w, by rw [h4]; exact Evo.refl hr, h3, CsMod.refl _ _, .inl ⟨rfl, _, rfl⟩, Steps.one hst⟩

end Go.Sh
