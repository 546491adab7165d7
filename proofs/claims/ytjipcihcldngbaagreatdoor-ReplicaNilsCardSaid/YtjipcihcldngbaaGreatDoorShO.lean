/- Shadow evaluation, 15: frames; the machine's steps. -/
import Derived.Test.YtjipcihcldngbaaGreatDoorShN
import Derived.Defers
import Derived.Recover
import Derived.RangeFuncIn
import Derived.Conc.MuLone
namespace Go.Sh
variable {P : Program} {ρ : Rho} {G : Nat}

def DefR (ρ : Rho) (d d' : Deferred) : Prop :=
  (∃ r b c, d.target = .collected r ∧ d'.target = .collected b ∧ ρ r = some (b, c)) ∨
  (∃ f cap, d.target = .fn (.func f) #[] ∧ d'.target = .fn (.func f) cap ∧ LR ρ d.args.toList (d'.args.toList ++ cap.toList))
def DefsR (ρ : Rho) : List Deferred → List Deferred → Prop
  | [], [] => True
  | d :: l, d' :: m => DefR ρ d d' ∧ DefsR ρ l m
  | _, _ => False
def ChR (ρ : Rho) : List PanicEntry → List PanicEntry → Prop
  | [], [] => True
  | x :: l, y :: m => (VR ρ x.v y.v ∧ y.recovered = x.recovered ∧ y.goexit = x.goexit) ∧ ChR ρ l m
  | _, _ => False
theorem DefR.mono {ρ' : Rho} (he : Ext ρ ρ') {d d' : Deferred} (h : DefR ρ d d') : DefR ρ' d d' := by
  rcases h with ⟨r, b, c, h1, h2, h3⟩ | ⟨f, cap, h1, h2, h3⟩
  · exact .inl ⟨r, b, c, h1, h2, he _ _ h3⟩
  · exact .inr ⟨f, cap, h1, h2, h3.mono he⟩
theorem DefsR.mono {ρ' : Rho} (he : Ext ρ ρ') : ∀ {l m : List Deferred}, DefsR ρ l m → DefsR ρ' l m
  | [], [], _ => trivial
  | _ :: _, _ :: _, h => ⟨h.1.mono he, h.2.mono he⟩
theorem ChR.mono {ρ' : Rho} (he : Ext ρ ρ') : ∀ {l m : List PanicEntry}, ChR ρ l m → ChR ρ' l m
  | [], [], _ => trivial
  | _ :: _, _ :: _, h => ⟨⟨h.1.1.mono he, h.1.2⟩, h.2.mono he⟩

/-- How a deferred call's caller stands. -/
def PcR (ρ : Rho) (pc : Option (List PanicEntry)) (kind : CallKind) (cs : List Frame) : Prop :=
  match pc with
  | none => kind = .normal ∨ (kind = .deferred ∧ ∃ c0 r, cs = c0 :: r ∧ c0.mode = .returning)
  | some ch => kind = .deferred ∧ ∃ c0 r ch', cs = c0 :: r ∧ c0.mode = .panicking ch' ∧ ChR ρ ch ch'
theorem PcR.mono {ρ' : Rho} (he : Ext ρ ρ') {pc : Option (List PanicEntry)} {kind : CallKind} {cs : List Frame} (h : PcR ρ pc kind cs) : PcR ρ' pc kind cs := by
  cases pc with
  | none => exact h
  | some ch => obtain ⟨a, c0, r, ch', b, c, d⟩ := h; exact ⟨a, c0, r, ch', b, c, d.mono he⟩

/-- The callers, but for how the first one goes. -/
def CsMod (kind : CallKind) (cs cs' : List Frame) : Prop := cs' = cs ∨ (kind = .deferred ∧ ∃ c0 r m, cs = c0 :: r ∧ cs' = { c0 with mode := m } :: r)
theorem CsMod.refl (kind : CallKind) (cs : List Frame) : CsMod kind cs cs := .inl rfl
theorem CsMod.trans {kind : CallKind} {a b c : List Frame} (h : CsMod kind a b) (k : CsMod kind b c) : CsMod kind a c := by
  rcases h with rfl | ⟨h1, c0, r, m, rfl, rfl⟩
  · exact k
  · rcases k with rfl | ⟨_, c1, r1, m1, e, rfl⟩
    · exact .inr ⟨h1, c0, r, m, rfl, rfl⟩
    · cases e; exact .inr ⟨h1, c0, r, m1, rfl, rfl⟩
theorem CsMod.normal {a b : List Frame} (h : CsMod .normal a b) : b = a := by
  rcases h with h | ⟨h, _⟩
  · exact h
  · cases h

structure Fst (P : Program) (ρ : Rho) (rnd : Option Nat) (fn : Nat) (fr : Fr) (b : Frame) (a : Act) (cs : List Frame) : Prop where
  fn : b.fn = fn
  rnd : match rnd with | none => b.roundOf = none | some l => ∃ b' c, ρ l = some (b', c) ∧ b.roundOf = some b'
  tm : TmR ρ fr.tm a.tmps
  n : fr.n ≤ a.tmps.size
  dfs : DefsR ρ fr.defers a.defers
  pc : PcR ρ fr.pc b.kind cs

theorem Fst.mono {ρ' : Rho} (he : Ext ρ ρ') {rnd : Option Nat} {fn : Nat} {fr : Fr} {b : Frame} {a : Act} {cs : List Frame} (h : Fst P ρ rnd fn fr b a cs) : Fst P ρ' rnd fn fr b a cs :=
  ⟨h.fn, by have := h.rnd; cases rnd with
    | none => exact this
    | some l => obtain ⟨b', c, h1, h2⟩ := this; exact ⟨b', c, he _ _ h1, h2⟩, h.tm.mono he, h.n, h.dfs.mono he, h.pc.mono he⟩
theorem Fst.wk {rnd : Option Nat} {fn : Nat} {fr : Fr} {b : Frame} {a : Act} {cs : List Frame} (h : Fst P ρ rnd fn fr b a cs) (σ : SW) : Fst P ρ rnd fn { fr with wk := σ } b a cs :=
  ⟨h.fn, h.rnd, h.tm, h.n, h.dfs, h.pc⟩

/-- What an operand is, on both sides. -/
theorem Fst.env {rnd : Option Nat} {fn : Nat} {fr : Fr} {b : Frame} {a : Act} {cs : List Frame} (h : Fst P ρ rnd fn fr b a cs) {w : World} (hr : Rel G ρ fr.wk w) (hG : G = P.globals.size) : EnvR ρ (fr.env P) a.eval := by
  intro x v hv
  cases x with
  | tmp t =>
    obtain ⟨v', h1, h2⟩ := h.tm t v hv
    simp only [Act.eval]
    rw [Array.getD_eq_getD_getElem?, h1]; exact h2
  | const u =>
    simp only [Fr.env] at hv
    obtain ⟨hp, hv⟩ := cond_some hv
    cases hv
    exact plain_refl ρ hp
  | global g =>
    simp only [Fr.env] at hv
    obtain ⟨hp, hv⟩ := cond_some hv
    cases hv
    obtain ⟨c, hc⟩ := hr.glob g (by rw [hG]; exact blt_lt hp)
    exact .ptr _ _ _ _ hc
  | func f => cases hv; exact .func _ _ _ _ _ (by simp) rfl rfl (fun j v v' h => by simp at h) (fun j v v' h => by simp at h)

theorem TmR.put {tm : Tr Value} {tmps : Array Value} (h : TmR ρ tm tmps) {t : Nat} (ht : t < tmps.size) {v v' : Value} (hv : VR ρ v v') : TmR ρ (tm.put t (some v)) (tmps.setIfInBounds t v') := by
  intro j u hu
  rw [Tr.get_put] at hu
  by_cases e : t = j
  · subst e
    rw [if_pos rfl] at hu; cases hu
    exact ⟨v', by simp [ht], hv⟩
  · rw [if_neg e] at hu
    obtain ⟨u', h1, h2⟩ := h j u hu
    exact ⟨u', by rw [Array.getElem?_setIfInBounds_ne e]; exact h1, h2⟩

theorem Fst.put {rnd : Option Nat} {fn : Nat} {fr fr' : Fr} {b : Frame} {a : Act} {cs : List Frame} (h : Fst P ρ rnd fn fr b a cs) {d : Option Tmp} {v v' : Value} (hv : VR ρ v v') (hp : fr.put d v = some fr') :
    Fst P ρ rnd fn fr' b (a.put d v') cs ∧ fr'.wk = fr.wk := by
  cases d with
  | none => simp only [Fr.put] at hp; cases hp; exact ⟨h, rfl⟩
  | some t =>
    simp only [Fr.put] at hp
    obtain ⟨hb, hp⟩ := cond_some hp
    cases hp
    have hlt := blt_lt hb
    exact ⟨⟨h.fn, h.rnd, h.tm.put (Nat.lt_of_lt_of_le hlt h.n) hv, by simp only [Act.put, Array.size_setIfInBounds]; exact h.n, h.dfs, h.pc⟩, rfl⟩

/-! ### One operation's step -/
section
variable {b : Frame} {a : Act} {k : List Item} {cs : List Frame} {w w' : World} {ops : Array Oper} {i : Nat} {rest : List Nat} {o : Oper}

theorem step_value (ho : ops[i]? = some o) (hw : Region.wanted o (yielded ops a.tmps) = true) (hd : ∀ c, o.op ≠ .defer c) {v : Value} (hr : (execOp a.eval o).run P w = .ok (.value v) w') :
    step P (lone (b.atR a (.inRegion ops (i :: rest) :: k)) cs w) = .next (lone (b.atR (a.put o.dst v) (.inRegion ops rest :: k)) cs w') := by
  have hfin := Frame.finish_atR b a ops i rest k v
  rw [ho] at hfin
  simp only [Option.bind_some] at hfin
  rw [← hfin]
  refine step_lone_go ?_
  rw [stepGR_op ho hw, Oper.semAt_eq _ _ _ hd]
  simp only [stepG.apply, Sem.runT_eq, hr, GStep.bare_after]
  rfl
theorem step_skip_v (ho : ops[i]? = some o) (hw : Region.wanted o (yielded ops a.tmps) = true) (hd : ∀ c, o.op ≠ .defer c) (hr : (execOp a.eval o).run P w = .ok .skip w') :
    step P (lone (b.atR a (.inRegion ops (i :: rest) :: k)) cs w) = .next (lone (b.atR (a.put o.dst undef) (.inRegion ops rest :: k)) cs w') := by
  have hfin := Frame.finish_atR b a ops i rest k undef
  rw [ho] at hfin
  simp only [Option.bind_some] at hfin
  rw [← hfin]
  refine step_lone_go ?_
  rw [stepGR_op ho hw, Oper.semAt_eq _ _ _ hd]
  simp only [stepG.apply, Sem.runT_eq, hr, GStep.bare_after]
  rfl
theorem step_enter (ho : ops[i]? = some o) (hw : Region.wanted o (yielded ops a.tmps) = true) (hd : ∀ c, o.op ≠ .defer c) {f : FuncId} {args : Array Value} (hr : (execOp a.eval o).run P w = .ok (.enter f args) w') :
    step P (lone (b.atR a (.inRegion ops (i :: rest) :: k)) cs w) = .next (lone (Frame.enter P f args .normal) (b.atR a (.inRegion ops (i :: rest) :: k) :: cs) w') := by
  refine step_lone_go ?_
  rw [stepGR_op ho hw, Oper.semAt_eq _ _ _ hd]
  simp only [stepG.apply, Sem.runT_eq, hr, GStep.bare_after]
  rfl
theorem step_round (ho : ops[i]? = some o) (hw : Region.wanted o (yielded ops a.tmps) = true) (hd : ∀ c, o.op ≠ .defer c) {l : Nat} {f : FuncId} {tmps : Array Value} {assign body : Code} (hr : (execOp a.eval o).run P w = .ok (.round l f tmps assign body) w') :
    step P (lone (b.atR a (.inRegion ops (i :: rest) :: k)) cs w) = .next (lone (Frame.round l f tmps assign body .normal) (b.atR a (.inRegion ops (i :: rest) :: k) :: cs) w') := by
  refine step_lone_go ?_
  rw [stepGR_op ho hw, Oper.semAt_eq _ _ _ hd]
  simp only [stepG.apply, Sem.runT_eq, hr, GStep.bare_after]
  rfl
theorem step_panic (ho : ops[i]? = some o) (hw : Region.wanted o (yielded ops a.tmps) = true) (hd : ∀ c, o.op ≠ .defer c) {v : Value} (hr : (execOp a.eval o).run P w = .halt (.panic v) w') :
    step P (lone (b.atR a (.inRegion ops (i :: rest) :: k)) cs w) = .next (lone { b.atR a (.inRegion ops (i :: rest) :: k) with mode := .panicking [{ v, recovered := false }] } cs w') := by
  refine step_lone_go ?_
  rw [stepGR_op ho hw, Oper.semAt_eq _ _ _ hd]
  simp only [stepG.apply, Sem.runT_eq, hr, GStep.bare_after]
  rfl
theorem step_deferOp (ho : ops[i]? = some o) (hw : Region.wanted o (yielded ops a.tmps) = true) (hb : b.roundOf = none) {d : Deferred} (hr : (execOp a.eval o).run P w = .ok (.defer d) w') :
    step P (lone (b.atR a (.inRegion ops (i :: rest) :: k)) cs w) = .next (lone (b.atR ({ a with defers := d :: a.defers }.put o.dst undef) (.inRegion ops rest :: k)) cs w') := by
  have hfin := Frame.finish_atR b { a with defers := d :: a.defers } ops i rest k undef
  rw [ho] at hfin
  simp only [Option.bind_some] at hfin
  rw [← hfin]
  refine step_lone_go ?_
  rw [stepGR_op ho hw, hb, Oper.semAt_none]
  simp only [stepG.apply, Sem.runT_eq, hr, GStep.bare_after]
  rfl
theorem step_recover_none (ho : ops[i]? = some o) (hw : Region.wanted o (yielded ops a.tmps) = true) (hd : ∀ c, o.op ≠ .defer c) (hb : b.roundOf = none) (hr : (execOp a.eval o).run P w = .ok .recover w')
    (ht : tryRecover (b.atR a (.inRegion ops (i :: rest) :: k)) cs = none) :
    step P (lone (b.atR a (.inRegion ops (i :: rest) :: k)) cs w) = .next (lone (b.atR (a.put o.dst .nilIface) (.inRegion ops rest :: k)) cs w') := by
  have hfin := Frame.finish_atR b a ops i rest k .nilIface
  rw [ho] at hfin
  simp only [Option.bind_some] at hfin
  rw [← hfin]
  refine step_lone_go ?_
  rw [stepGR_op ho hw, Oper.semAt_eq _ _ _ hd]
  have hb' : (b.atR a (.inRegion ops (i :: rest) :: k)).roundOf = none := hb
  simp only [stepG.apply, Sem.runT_eq, hr, GStep.bare_after, hb', ht]
  rfl
theorem step_recover_some (ho : ops[i]? = some o) (hw : Region.wanted o (yielded ops a.tmps) = true) (hd : ∀ c, o.op ≠ .defer c) (hb : b.roundOf = none) (hr : (execOp a.eval o).run P w = .ok .recover w') {v : Value} {cs' : List Frame}
    (ht : tryRecover (b.atR a (.inRegion ops (i :: rest) :: k)) cs = some (v, cs')) :
    step P (lone (b.atR a (.inRegion ops (i :: rest) :: k)) cs w) = .next (lone (b.atR (a.put o.dst v) (.inRegion ops rest :: k)) cs' w') := by
  have hfin := Frame.finish_atR b a ops i rest k v
  rw [ho] at hfin
  simp only [Option.bind_some] at hfin
  rw [← hfin]
  refine step_lone_go ?_
  rw [stepGR_op ho hw, Oper.semAt_eq _ _ _ hd]
  have hb' : (b.atR a (.inRegion ops (i :: rest) :: k)).roundOf = none := hb
  simp only [stepG.apply, Sem.runT_eq, hr, GStep.bare_after, hb', ht]
  rfl
end

/-- Is the operation wanted? -/
theorem wantedS_sound {rnd : Option Nat} {fn : Nat} {fr : Fr} {b : Frame} {a : Act} {cs : List Frame} (h : Fst P ρ rnd fn fr b a cs) {ops : Array Oper} {o : Oper} {x : Bool} (hw : wantedS ops o fr = some x) :
    Region.wanted o (yielded ops a.tmps) = x := by
  unfold wantedS at hw
  unfold Region.wanted
  split at hw
  · rename_i hg; cases hw; rw [hg]
  · rename_i j want hg
    rw [hg]
    simp only
    split at hw
    · rename_i oj hoj
      split at hw
      · rename_i d hd
        unfold yielded
        rw [hoj]
        simp only [Option.bind_some, hd]
        split at hw
        · rename_i bb hb
          cases hw
          obtain ⟨v', h1, h2⟩ := h.tm d _ hb
          rw [h1, h2.bool_inv]
          cases bb <;> cases want <;> rfl
        · rename_i ts hb
          cases hw
          obtain ⟨v', h1, h2⟩ := h.tm d _ hb
          obtain ⟨ts', rfl, _⟩ := h2.tuple_inv
          rw [h1]
          cases want <;> rfl
        · cases hw
      · cases hw
    · cases hw

end Go.Sh
