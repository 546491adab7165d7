/- Shadow evaluation, 28: code. -/
import Derived.Test.YtjipcihcldngbaaGreatDoorShAA
import Derived.RangeFuncRecord
namespace Go.Sh
variable {P : Program} {ρ : Rho} {G : Nat}

section moves
variable {b : Frame} {a : Act} {k : List Item} {cs : List Frame} {w : World}
theorem stepR_scope {c : Code} : step P (lone (b.atR a (.code (.scope c) :: k)) cs w) = .next (lone (b.atR a (.code c :: .inScope c :: k)) cs w) :=
  step_lone_go (by simp [stepG, stepG.exec, Frame.atR])
theorem stepR_inScope {c : Code} : step P (lone (b.atR a (.inScope c :: k)) cs w) = .next (lone (b.atR a k) cs w) :=
  step_lone_go (by simp [stepG, stepG.exec, Frame.atR])
end moves

theorem lone_frame {fr fr' : Frame} {cs cs' : List Frame} {w w' : World} (h : lone fr cs w = lone fr' cs' w') : fr = fr' := by
  have := congrArg (fun m : Machine => (m.gs[0]?).map (·.frame)) h
  simpa [lone] using this

theorem Steps.skip {m x t : Machine} (h : Steps P m t) (hs : step P m = .next x) (hne : m ≠ t) : Steps P x t := by
  obtain ⟨n, hn⟩ := h
  cases n with
  | zero => simp only [runN] at hn; cases hn; exact absurd rfl hne
  | succ n => simp only [runN, hs] at hn; exact ⟨n, hn⟩

/-- Where it starts does not matter where it goes on alike. -/
theorem ArrR.swap {m x : Machine} {b b0 : Frame} {k k1 : List Item} {a a0 : Act} {cs cs0 : List Frame} {w w0 : World} {e : Ex} {it : Item} (hm : m = lone (b0.atR a0 (it :: k1)) cs0 w0) (hs : step P m = .next x)
    (h1 : k1.length = k.length) (h2 : ∀ id, it ≠ .code (.exit id)) (h3 : it ≠ .code .ret)
    (h : ArrR P ρ m b k e a cs w) : ArrR P ρ x b k e a cs w := by
  subst hm
  cases e with
  | normal =>
    refine Steps.skip h hs fun e => ?_
    have h4 := congrArg (fun f : Frame => f.todo) (lone_frame e)
    simp only [Frame.atR] at h4
    have := congrArg List.length h4
    simp at this; omega
  | exit id =>
    obtain ⟨k0, hst, hx⟩ := h
    refine ⟨k0, Steps.skip hst hs fun e => ?_, hx⟩
    have h4 := congrArg (fun f : Frame => f.todo) (lone_frame e)
    simp only [Frame.atR] at h4
    injection h4 with h5 _
    exact h2 id h5
  | ret =>
    obtain ⟨k0, hst⟩ := h
    refine ⟨k0, Steps.skip hst hs fun e => ?_⟩
    have h4 := congrArg (fun f : Frame => f.todo) (lone_frame e)
    simp only [Frame.atR] at h4
    injection h4 with h5 _
    exact h3 h5
  | panic ch =>
    obtain ⟨ch', k0, hc, hst⟩ := h
    refine ⟨ch', k0, hc, Steps.skip hst hs fun e => ?_⟩
    have h4 := congrArg (fun f : Frame => f.mode) (lone_frame e)
    simp only [Frame.atR] at h4
    cases h4

theorem bodied_some {g : Nat} (h : bodied P g = true) : ∃ fn, fnAt P g = some fn ∧ fn.body.isSome = true := by
  unfold bodied at h
  split at h
  · rename_i fn hf; exact ⟨fn, hf, h⟩
  · cases h

/-- A range over a function. -/
theorem rangeFunc_sound (hG : G = P.globals.size) {ev : Ev} (he : EvSound P G ev) {fn : Nat} {f : Operand} {params : Array Tmp} {assign body : Code} {fr fr' : Fr} {e : Ex}
    (h : codeS P ev none fn (.rangeFunc f params assign body) fr = some (e, fr')) : CodeOk P G none fn (.rangeFunc f params assign body) fr e fr' := by
  intro ρ b a cs w k hf hr hfresh
  simp only [codeS] at h
  split at h
  · rename_i g x y _ hx
    replace h := cond_some h
    obtain ⟨hbod, h⟩ := h
    obtain ⟨gn, hg1, hg2⟩ := bodied_some hbod
    have hb : b.roundOf = none := hf.rnd
    obtain ⟨x', y', hxe, hX, hY⟩ := (hf.env hr hG f _ hx).func_inv (by simp)
    obtain ⟨m, hm, hnext⟩ : ∃ m, m = fr'.wk.next ∧ fr.wk.next + 2 ≤ m := by
      refine ⟨_, rfl, ?_⟩
      split at h
      · rename_i σ1 hc
        have := he.callN hc
        simp only at this
        split at h
        · split at h
          · cases h
          · split at h
            · cases h; exact this
            · cases h; exact this
            · cases h; exact this
            · cases h
        · cases h
      · rename_i hc
        cases h
        have := he.callN hc
        exact this
      · cases h
    have hfn1 : ρ fr.wk.next = none := hfresh _ (Nat.le_refl _) (by omega)
    have hfn2 : ρ (fr.wk.next + 1) = none := hfresh _ (by omega) (by omega)
    -- the record
    have hev1 := evo_push (ob := .dfr) (ob' := .deferred (some [])) (cap := 0) hr hfn1 rfl rfl rfl rfl (w' := w.alloc (.deferred (some []))) rfl
    generalize hρ1 : upd ρ fr.wk.next (w.heap.size, 0) = ρ1 at hev1
    have hd1 : ρ1 fr.wk.next = some (w.heap.size, 0) := by rw [← hρ1]; exact upd_same _ _ _
    have hn1 : ρ1 (fr.wk.push .dfr).next = none := by
      rw [← hρ1, upd_other (by simp [SW.push])]; exact hfn2
    have hsz1 : (w.alloc (.deferred (some []))).heap.size = w.heap.size + 1 := World.size_alloc w _
    have htm1 := hf.tm.mono hev1.ext
    have hev2 := evo_push (w' := (w.alloc (.deferred (some []))).alloc (.loop { state := .ready, pending := none, fn := b.fn, tmps := a.tmps, params := params, assign, body, defers := w.heap.size }))
      (ob := .loop .ready none fn fr.tm fr.n params.toList assign body fr.wk.next) (ob' := .loop { state := .ready, pending := none, fn := b.fn, tmps := a.tmps, params := params, assign, body, defers := w.heap.size }) (cap := 0) hev1.rel hn1
      ⟨rfl, rfl, hf.fn, ⟨htm1.mono (upd_ext hn1), hf.n⟩, rfl, rfl, rfl, 0, upd_ext hn1 _ _ hd1⟩ rfl rfl rfl rfl
    generalize hw2 : (w.alloc (.deferred (some []))).alloc (.loop { state := .ready, pending := none, fn := b.fn, tmps := a.tmps, params := params, assign, body, defers := w.heap.size }) = w2 at hev2
    generalize hρ2 : upd ρ1 (fr.wk.push .dfr).next ((w.alloc (.deferred (some []))).heap.size, 0) = ρ2 at hev2
    have hl2 : ρ2 (fr.wk.next + 1) = some (w.heap.size + 1, 0) := by rw [← hρ2, ← hsz1]; exact upd_same _ _ _
    have hd2 : ρ2 fr.wk.next = some (w.heap.size, 0) := hev2.ext _ _ hd1
    have hev := hev1.trans hev2
    -- the call
    have hent := run_enterLoop_outer (P := P) (w := w) b.fn a.tmps params assign body
    rw [hw2, ← hb] at hent
    have hres : (resolve a.eval (rangeCall f (w.heap.size + 1)) 0).run P w2 = .ok { target := .fn (.func g) y', args := x' ++ #[.func (.yield (w.heap.size + 1)) #[] #[]] } w2 := by
      have hmap : Array.map a.eval #[Operand.const (Value.func (Fn.yield (w.heap.size + 1)) #[] #[])] = #[Value.func (.yield (w.heap.size + 1)) #[] #[]] := by simp [Act.eval]
      simp only [resolve, hxe, Deferred.ofValue, Sem.run_pure, hmap]
    have hinv : (invoke (.fn (.func g) y') (x' ++ #[.func (.yield (w.heap.size + 1)) #[] #[]])).run P w2 = .ok (.enter g ((x' ++ #[.func (.yield (w.heap.size + 1)) #[] #[]]) ++ y')) w2 := by
      simp only [invoke]
      exact callFunc_enter hg1 hg2 _ w2
    have hstep := stepR_rangeFunc (P := P) (k := k) (cs := cs) hent hres hinv
    have hA : LR ρ2 (x.toList ++ [Value.func (.yield (fr.wk.next + 1)) #[] #[]] ++ y.toList) ((x' ++ #[Value.func (.yield (w.heap.size + 1)) #[] #[]]) ++ y').toList := by
      simp only [Array.toList_append]
      exact ((hX.mono hev.ext).append (LR.cons (.yield _ _ _ hl2) (LR.nil ρ2))).append (hY.mono hev.ext)
    have hF : Fst P ρ2 none fn { fr with defers := { target := .collected fr.wk.next, args := #[] } :: fr.defers } b { a with defers := [{ target := .collected w.heap.size, args := #[] }] ++ a.defers } cs :=
      ⟨hf.fn, hf.rnd, hf.tm.mono hev.ext, hf.n, ⟨.inl ⟨_, _, 0, rfl, rfl, hd2⟩, hf.dfs.mono hev.ext⟩, hf.pc.mono hev.ext⟩
    split at h
    · rename_i v pc1 σ1 hc
      have hn := he.callN hc
      simp only at hn
      split at h
      · rename_i st pend fn' tm' n' ps' as' bo' d' hgl
        have hwk : fr'.wk = { σ1 with heap := σ1.heap.put (fr.wk.next + 1) (some (.loop .exhausted pend fn' tm' n' ps' as' bo' d')) } ∧ st ≠ .busy := by
          split at h
          · cases h
          · rename_i hst
            refine ⟨?_, fun e0 => hst e0⟩
            split at h
            · cases h; rfl
            · cases h; rfl
            · cases h; rfl
            · cases h
        obtain ⟨ρ3, frl, cs3, w3, hev3, hpc3, hm3, hs3, hlfn, hlk, hld, fnv, hlf, v', hv', hlm, hlr⟩ := he.call hc ρ2 _ .normal (b.atR { a with defers := [{ target := .collected w.heap.size, args := #[] }] ++ a.defers } (.inRangeFunc (w.heap.size + 1) :: k) :: cs) w2 hA (.inl rfl) hev.rel
          (Fresh.second (a := fr.wk) (fun i h1 h2 => hfresh i h1 (by rw [hwk.1]; exact h2)) hev)
        have hcs := hm3.normal
        subst hcs
        obtain ⟨bl, cl, r, hρ3, hwl, hO⟩ := loop_live hev3.rel hgl
        have hl3 := hev3.ext _ _ hl2
        rw [hl3] at hρ3; cases hρ3
        have hO' := hO
        simp only [ObjR] at hO
        have hlv : frl.leaving P w3 (.returned v') := ⟨hlm, hld, hlk, fnv, by rw [hlfn]; exact hlf, hlr⟩
        have hback := step_leave_returned (P := P) (c := b.atR { a with defers := [{ target := .collected w.heap.size, args := #[] }] ++ a.defers } (.inRangeFunc (w.heap.size + 1) :: k)) (cs := cs) hlv
        rw [finish_atR_inRangeFunc] at hback
        have hend := run_endLoop (P := P) hwl (by rw [hO.1]; exact hwk.2)
        have hse := stepR_endRangeFunc (P := P) (b := b) (a := { a with defers := [{ target := .collected w.heap.size, args := #[] }] ++ a.defers }) (k := k) (cs := cs) hend
        have hch := putObj_chg (o' := .loop { r with state := .exhausted }) hwl
        have hevc := evo_chg (ob := .loop .exhausted pend fn' tm' n' ps' as' bo' d') hev3.rel (by have := hr.gn; omega) hgl hl3 hch ⟨rfl, hO.2⟩
        have hall := (hev.trans hev3).trans hevc
        have hsteps := (Steps.head hstep hs3).trans (Steps.head hback (Steps.one hse))
        have hq : ∀ p, r.pending = p → Steps P (lone (b.atR a (.code (.rangeFunc f params assign body) :: k)) cs w) (lone (b.atR { a with defers := [{ target := .collected w.heap.size, args := #[] }] ++ a.defers } ((p.map Item.code).toList ++ k)) cs (w3.putObj (w.heap.size + 1) (.loop { r with state := .exhausted }))) := by
          rintro _ rfl; exact hsteps
        replace hq := hq _ hO.2.1
        have hF' := ((hF.mono hev3.ext).mono hevc.ext).wk { σ1 with heap := σ1.heap.put (fr.wk.next + 1) (some (.loop .exhausted pend fn' tm' n' ps' as' bo' d')) }
        split at h
        · cases h
        · split at h
          · cases h
            exact ⟨ρ3, _, cs, _, hall, hF', CsMod.refl _ _, hq⟩
          · cases h
            exact ⟨ρ3, _, cs, _, hall, hF', CsMod.refl _ _, k, hq⟩
          · cases h
            exact ⟨ρ3, _, cs, _, hall, hF', CsMod.refl _ _, k, hq, rfl⟩
          · cases h
      · cases h
    · rename_i ch pc1 σ1 hc
      cases h
      obtain ⟨ρ3, frl, cs3, w3, hev3, hpc3, hm3, hs3, hlfn, hlk, hld, fnv, hlf, ch', hch, hlm⟩ := he.call hc ρ2 _ .normal (b.atR { a with defers := [{ target := .collected w.heap.size, args := #[] }] ++ a.defers } (.inRangeFunc (w.heap.size + 1) :: k) :: cs) w2 hA (.inl rfl) hev.rel
        (Fresh.second (a := fr.wk) hfresh hev)
      have hcs := hm3.normal
      subst hcs
      have hlv : frl.leaving P w3 (.panicked ch') := ⟨hlm, hld, fnv, by rw [hlfn]; exact hlf⟩
      have hback := step_leave_panicked (P := P) (c := b.atR { a with defers := [{ target := .collected w.heap.size, args := #[] }] ++ a.defers } (.inRangeFunc (w.heap.size + 1) :: k)) (cs := cs) hlv
      rw [Frame.raise_atR] at hback
      exact ⟨ρ3, _, cs, w3, hev.trans hev3, (hF.mono hev3.ext).wk σ1, CsMod.refl _ _, ch', _, hch, (Steps.head hstep hs3).trans (Steps.one hback)⟩
    · cases h
  · cases h

theorem codeS_sound (hG : G = P.globals.size) (hmix : P.follows .mixedOrders = true) {ev : Ev} (he : EvSound P G ev) {rnd : Option Nat} {fn : Nat} {c : Code} {fr fr' : Fr} {e : Ex}
    (h : codeS P ev rnd fn c fr = some (e, fr')) : CodeOk P G rnd fn c fr e fr' := by
  unfold codeS at h
  split at h
  · cases h
    intro ρ b a cs w k hf hr _
    exact ⟨ρ, a, cs, w, Evo.refl hr, hf, CsMod.refl _ _, Steps.one stepR_skip⟩
  · cases h
    intro ρ b a cs w k hf hr _
    exact ⟨ρ, a, cs, w, Evo.refl hr, hf, CsMod.refl _ _, Steps.one stepR_label⟩
  · rename_i x y
    split at h
    · rename_i f1 h1
      intro ρ b a cs w k hf hr hfresh
      have n1 := he.codeN h1
      have n2 := he.codeN h
      obtain ⟨ρ1, a1, cs1, w1, ev1, hf1, m1, s1⟩ := he.code h1 ρ b a cs w (.code y :: k) hf hr (hfresh.first n2)
      obtain ⟨ρ2, a2, cs2, w2, ev2, hf2, m2, s2⟩ := he.code h ρ1 b a1 cs1 w1 k hf1 ev1.rel (hfresh.second ev1)
      exact ⟨ρ2, a2, cs2, w2, ev1.trans ev2, hf2, m1.trans m2, ArrR.of_steps (Steps.head stepR_seq s1) s2⟩
    · rename_i hne
      intro ρ b a cs w k hf hr hfresh
      obtain ⟨ρ1, a1, cs1, w1, ev1, hf1, m1, s1⟩ := he.code h ρ b a cs w (.code y :: k) hf hr hfresh
      exact ⟨ρ1, a1, cs1, w1, ev1, hf1, m1, ArrR.of_steps (Steps.one stepR_seq) (ArrR.pass (fun e0 => hne _ (by rw [h, e0])) rfl s1)⟩
  · rename_i x c1 c2
    split at h
    · rename_i hx
      intro ρ b a cs w k hf hr hfresh
      have hv := (hf.env hr hG x _ hx).bool_inv
      obtain ⟨ρ1, a1, cs1, w1, ev1, hf1, m1, s1⟩ := he.code h ρ b a cs w k hf hr hfresh
      exact ⟨ρ1, a1, cs1, w1, ev1, hf1, m1, ArrR.of_steps (Steps.one (stepR_cond hv)) s1⟩
    · rename_i hx
      intro ρ b a cs w k hf hr hfresh
      have hv := (hf.env hr hG x _ hx).bool_inv
      obtain ⟨ρ1, a1, cs1, w1, ev1, hf1, m1, s1⟩ := he.code h ρ b a cs w k hf hr hfresh
      exact ⟨ρ1, a1, cs1, w1, ev1, hf1, m1, ArrR.of_steps (Steps.one (stepR_cond hv)) s1⟩
    · cases h
  · rename_i id body
    split at h
    · rename_i j f1 h1
      cases h
      intro ρ b a cs w k hf hr hfresh
      obtain ⟨ρ1, a1, cs1, w1, ev1, hf1, m1, k0, s1, hx⟩ := he.code h1 ρ b a cs w (.inBlock id :: k) hf hr hfresh
      refine ⟨ρ1, a1, cs1, w1, ev1, hf1, m1, ?_⟩
      cases hj : Nat.beq j id with
      | true =>
        have hji := Nat.eq_of_beq_eq_true hj
        subst hji
        have hxx : exitTo j k0 = some k := by rw [hx]; simp [exitTo]
        exact (Steps.head stepR_block s1).trans (Steps.one (stepR_exit hxx))
      | false =>
        have hji : id ≠ j := fun e0 => by
          rw [e0] at hj
          have : Nat.beq j j = true := Nat.beq_refl j
          rw [this] at hj; cases hj
        exact ⟨k0, Steps.head stepR_block s1, by rw [hx]; simp [exitTo, hji]⟩
    · rename_i hne
      intro ρ b a cs w k hf hr hfresh
      obtain ⟨ρ1, a1, cs1, w1, ev1, hf1, m1, s1⟩ := he.code h ρ b a cs w (.inBlock id :: k) hf hr hfresh
      refine ⟨ρ1, a1, cs1, w1, ev1, hf1, m1, ?_⟩
      cases e with
      | normal => exact (Steps.head stepR_block s1).trans (Steps.one stepR_inBlock)
      | exit j => exact absurd h (hne _ _)
      | ret => obtain ⟨k0, s1⟩ := s1; exact ⟨k0, Steps.head stepR_block s1⟩
      | panic ch => obtain ⟨ch', k0, hc, s1⟩ := s1; exact ⟨ch', k0, hc, Steps.head stepR_block s1⟩
  · rename_i body
    split at h
    · rename_i f1 h1
      intro ρ b a cs w k hf hr hfresh
      have n1 := he.codeN h1
      have n2 := he.codeN h
      obtain ⟨ρ1, a1, cs1, w1, ev1, hf1, m1, s1⟩ := he.code h1 ρ b a cs w (.inLoop body :: k) hf hr (hfresh.first n2)
      obtain ⟨ρ2, a2, cs2, w2, ev2, hf2, m2, s2⟩ := he.code h ρ1 b a1 cs1 w1 k hf1 ev1.rel (hfresh.second ev1)
      have s3 := ArrR.swap rfl (stepR_loop (P := P)) rfl (by simp) (by simp) s2
      exact ⟨ρ2, a2, cs2, w2, ev1.trans ev2, hf2, m1.trans m2, ArrR.of_steps ((Steps.head stepR_loop s1).trans (Steps.one stepR_inLoop)) s3⟩
    · rename_i hne
      intro ρ b a cs w k hf hr hfresh
      obtain ⟨ρ1, a1, cs1, w1, ev1, hf1, m1, s1⟩ := he.code h ρ b a cs w (.inLoop body :: k) hf hr hfresh
      refine ⟨ρ1, a1, cs1, w1, ev1, hf1, m1, ArrR.of_steps (Steps.one stepR_loop) ?_⟩
      cases e with
      | normal => exact absurd h (hne _)
      | exit j => obtain ⟨k0, s1, hx⟩ := s1; exact ⟨k0, s1, hx⟩
      | ret => exact s1
      | panic ch => exact s1
  · rename_i body
    intro ρ b a cs w k hf hr hfresh
    obtain ⟨ρ1, a1, cs1, w1, ev1, hf1, m1, s1⟩ := he.code h ρ b a cs w (.inScope body :: k) hf hr hfresh
    refine ⟨ρ1, a1, cs1, w1, ev1, hf1, m1, ArrR.of_steps (Steps.one stepR_scope) ?_⟩
    cases e with
    | normal => exact Steps.trans s1 (Steps.one stepR_inScope)
    | exit j => obtain ⟨k0, s1, hx⟩ := s1; exact ⟨k0, s1, hx⟩
    | ret => exact s1
    | panic ch => exact s1
  · cases h
    intro ρ b a cs w k hf hr _
    exact ⟨ρ, a, cs, w, Evo.refl hr, hf, CsMod.refl _ _, k, Steps.refl P _, rfl⟩
  · cases h
    intro ρ b a cs w k hf hr _
    exact ⟨ρ, a, cs, w, Evo.refl hr, hf, CsMod.refl _ _, k, Steps.refl P _⟩
  · obtain ⟨ok, _⟩ := opsS_sound hG he (fn := fn) h
    intro ρ b a cs w k hf hr hfresh
    obtain ⟨ρ1, a1, cs1, w1, ev1, hf1, m1, s1⟩ := ok ρ b a cs w k hf hr hfresh
    exact ⟨ρ1, a1, cs1, w1, ev1, hf1, m1, ArrR.of_steps (Steps.one stepR_region) s1⟩
  · exact drawnS_sound hG hmix he h
  · rename_i f params assign body
    cases rnd with
    | some l => simp at h
    | none => exact rangeFunc_sound hG he (by simp only [codeS]; exact h)
  · cases h

end Go.Sh
