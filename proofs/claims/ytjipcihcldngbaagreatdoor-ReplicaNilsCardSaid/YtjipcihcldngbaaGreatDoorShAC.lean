/- Shadow evaluation, 29: a frame goes; a call; all. -/
import Derived.Test.YtjipcihcldngbaaGreatDoorShAB
namespace Go.Sh
variable {P : Program} {ρ : Rho} {G : Nat}

/-- A block that is no more of use. -/
theorem evo_drop {σ : SW} {w w' : World} (h : Rel G ρ σ w) {i b c : Nat} {o : SObj} {ob' : Obj} (hG : G ≤ i) (hg : σ.heap.get i = some o) (hρ : ρ i = some (b, c)) (hch : Chg1 w w' b ob') :
    Evo G ρ σ w ρ { σ with heap := σ.heap.put i none } w' := by
  have hsub : ∀ j p, (σ.heap.put i none).get j = some p → i ≠ j ∧ σ.heap.get j = some p := fun j p hj => by
    rw [Tr.get_put] at hj
    by_cases e : i = j
    · rw [if_pos e] at hj; cases hj
    · rw [if_neg e] at hj; exact ⟨e, hj⟩
  refine ⟨Ext.refl ρ, fun _ _ => rfl, Nat.le_refl _, fun j p hj _ => ⟨p, (hsub j p hj).2⟩, fun j p b' c' hj hn _ => ?_, ⟨fun j p hj => ?_, fun j k p q b1 c1 d1 hj hk => h.inj j k p q b1 c1 d1 (hsub j p hj).2 (hsub k q hk).2, h.glob, h.gn⟩, ⟨hch.os, hch.tape, hch.output, by rw [hch.size]; exact Nat.le_refl _, fun k hk hn => hch.other k fun e => ?_⟩⟩
  · have := h.get_lt (hsub j p hj).2; omega
  · obtain ⟨e, hj⟩ := hsub j p hj
    obtain ⟨h1, b2, c2, o2, h2, h3, h4⟩ := h.live j p hj
    exact ⟨h1, b2, c2, o2, h2, by rw [hch.other b2 (fun eb => e (h.inj i j o p b c c2 hg hj hρ (by rw [h2, eb])))]; exact h3, h4⟩
  · subst e; exact hn i o c hG hg hρ

theorem resultS_sound {fr : Fr} {tmps : Array Value} {w : World} (hr : Rel G ρ fr.wk w) (ht : TmR ρ fr.tm tmps) {x : ResultVar} {v : Value} (h : resultS P fr x = some v) :
    ∃ v', VR ρ v v' ∧ Sem.run P (match x with | .tmp t => pure (tmps.getD t undef) | .cell a t => do loadVar t (← asAddr (tmps.getD a undef))) w = .ok v' w := by
  cases x with
  | tmp t =>
    obtain ⟨v', h1, h2⟩ := ht t v h
    exact ⟨v', h2, by simp [h1]⟩
  | cell a t =>
    simp only [resultS] at h
    split at h
    · rename_i i off hx
      split at h
      · rename_i c hc
        obtain ⟨x', h1, h2⟩ := ht a _ hx
        obtain ⟨b, cc, hρ, rfl⟩ := h2.ptr_inv
        obtain ⟨b2, cc2, c', el, hρ2, ⟨_, _, hw⟩, hl, _⟩ := cells_live hr hc
        rw [hρ] at hρ2; cases hρ2
        obtain ⟨v', h3, h4⟩ := load_sound (P := P) hl hw h
        refine ⟨v', h3, ?_⟩
        simp only [Instr.loadAt, Instr.sureAddr, Sem.run_bind, Sem.run_pure, Result.andThen_ok] at h4
        have hd : tmps.getD a undef = .pointer (some ⟨b, off, none⟩) := by rw [Array.getD_eq_getD_getElem?, h1]; rfl
        simp only [hd, asAddr, Sem.run_bind, Sem.run_pure, Result.andThen_ok]
        exact h4
      · cases h
    · cases h

theorem resultsS_sound {fr : Fr} {tmps : Array Value} {w : World} (hr : Rel G ρ fr.wk w) (ht : TmR ρ fr.tm tmps) : ∀ {l : List ResultVar} {vs : List Value}, resultsS P fr l = some vs →
    ∃ vs', LR ρ vs vs' ∧ Sem.run P (l.mapM fun x => (match x with | .tmp t => pure (tmps.getD t undef) | .cell a t => do loadVar t (← asAddr (tmps.getD a undef)) : Sem Value)) w = .ok vs' w
  | [], vs, h => by simp only [resultsS] at h; cases h; exact ⟨[], LR.nil ρ, by simp⟩
  | x :: l, vs, h => by
    simp only [resultsS] at h
    split at h
    · rename_i v vs1 hv hvs
      cases h
      obtain ⟨v', h1, h2⟩ := resultS_sound (P := P) hr ht hv
      obtain ⟨vs', h3, h4⟩ := resultsS_sound hr ht hvs
      refine ⟨v' :: vs', LR.cons h1 h3, ?_⟩
      simp only [List.mapM_cons, Sem.run_bind, h2, Result.andThen_ok, h4, Sem.run_pure]
    · cases h

theorem results_sound {fr : Fr} {fn : Func} {tmps : Array Value} {w : World} (hr : Rel G ρ fr.wk w) (ht : TmR ρ fr.tm tmps) {vs : List Value} (h : resultsS P fr fn.results.toList = some vs) {v : Value}
    (hv : (∃ x, vs = [x] ∧ v = x) ∨ ((∀ x, vs ≠ [x]) ∧ v = .tuple ⟨vs⟩)) : ∃ v', VR ρ v v' ∧ (results fn tmps).run P w = .ok v' w := by
  obtain ⟨vs', h1, h2⟩ := resultsS_sound (P := P) hr ht h
  have hm : Sem.run P (fn.results.mapM fun x => (match x with | .tmp t => pure (tmps.getD t undef) | .cell a t => do loadVar t (← asAddr (tmps.getD a undef)) : Sem Value)) w = .ok ⟨vs'⟩ w := by
    rw [Array.mapM_eq_mapM_toList, Sem.run_map, h2]; rfl
  unfold results
  rcases hv with ⟨x, rfl, rfl⟩ | ⟨hne, rfl⟩
  · obtain ⟨x', r', rfl, hx, hr'⟩ := h1.cons_inv
    have := hr'.nil_inv; subst this
    refine ⟨x', hx, ?_⟩
    rw [Sem.run_bind]
    exact congrArg (fun r : Result (Array Value) => r.andThen (fun vs w => Sem.run P (pure (if h : vs.size = 1 then vs[0] else .tuple vs)) w)) hm
  · refine ⟨_, VR.of_tuple h1, ?_⟩
    rw [Sem.run_bind]
    refine (congrArg (fun r : Result (Array Value) => r.andThen (fun vs w => Sem.run P (pure (if h : vs.size = 1 then vs[0] else .tuple vs)) w)) hm).trans ?_
    have hl : vs'.length ≠ 1 := by
      rw [← h1.len]
      intro e
      obtain ⟨x, hx⟩ := List.length_eq_one_iff.1 e
      exact hne x hx
    simp [hl]

theorem CsMod.deferred {c0 : Frame} {r cs' : List Frame} (h : CsMod .deferred (c0 :: r) cs') : ∃ m, cs' = { c0 with mode := m } :: r := by
  rcases h with rfl | ⟨_, c1, r1, m, e, rfl⟩
  · exact ⟨c0.mode, rfl⟩
  · cases e; exact ⟨m, rfl⟩

theorem dropWhile_goexit : ∀ {l l' : List PanicEntry}, ChR ρ l l' → l.all (fun y => !y.goexit) = true → l'.dropWhile (!·.goexit) = []
  | [], [], _, _ => rfl
  | x :: l, y :: m, h, ha => by
    simp only [List.all_cons, Bool.and_eq_true] at ha
    have := dropWhile_goexit h.2 ha.2
    rw [List.dropWhile_cons, h.1.2.2, ha.1, if_pos rfl, this]

theorem DefsR.nil_inv {m : List Deferred} (h : DefsR ρ [] m) : m = [] := by cases m with | nil => rfl | cons _ _ => exact h.elim
theorem DefsR.cons_inv {d : Deferred} {l m : List Deferred} (h : DefsR ρ (d :: l) m) : ∃ d' m', m = d' :: m' ∧ DefR ρ d d' ∧ DefsR ρ l m' := by
  cases m with | nil => exact h.elim | cons d' m' => exact ⟨d', m', rfl, h.1, h.2⟩

theorem unwS_sound (hG : G = P.globals.size) {ev : Ev} (he : EvSound P G ev) {f : Nat} {ch : Option (List PanicEntry)} {fr : Fr} {r : CR} (h : unwS P ev f ch fr = some r) : UnwOk P G f ch fr r := by
  intro ρ b a cs w todo mode hf hmode hr hfresh
  have hmr : mode ≠ .run := by
    cases ch with
    | none => rw [hmode]; simp
    | some c => obtain ⟨c', _, rfl⟩ := hmode; simp
  unfold unwS at h
  split at h
  · -- a mark
    rename_i d args ds hd
    split at h
    · rename_i hg
      obtain ⟨hGd, h⟩ := cond_some h
      have hdf := hf.dfs
      rw [hd] at hdf
      obtain ⟨d', ds', hds', hD, hds⟩ := hdf.cons_inv
      rcases hD with ⟨r0, bl, c, h1, h2, h3⟩ | ⟨_, _, h1, _⟩
      · cases h1
        obtain ⟨_, b2, c2, o', h4, h5, h6⟩ := hr.live _ _ hg
        rw [h3] at h4; cases h4
        cases o' with
        | deferred dl =>
          simp only [ObjR] at h6
          subst h6
          have htk := run_takeDeferred (P := P) h5
          have hst := step_collected (P := P) (fr := { b.atR a todo with mode := mode }) (cs := cs) hmr hds' h2 htk
          have hev := evo_drop hr (by rw [hG]; exact Nat.le_of_ble_eq_true hGd) hg h3 (putObj_chg (o' := .deferred none) h5)
          have hF : Fst P ρ none f { fr with defers := ds, wk := { fr.wk with heap := fr.wk.heap.put d none } } b { a with defers := [] ++ ds' } cs :=
            ⟨hf.fn, hf.rnd, hf.tm, hf.n, hds, hf.pc⟩
          obtain ⟨ρ', frl, cs', w', k1, k2, k3, k4, k5⟩ := he.unw h ρ b { a with defers := [] ++ ds' } cs _ todo mode hF hmode hev.rel hfresh
          exact ⟨ρ', frl, cs', w', hev.trans k1, k2, k3, Steps.head hst k4, k5⟩
        | _ => simp only [ObjR] at h6
      · cases h1
    · cases h
  · -- a deferred call
    rename_i g cap args ds hd
    obtain ⟨hbod, h⟩ := cond_some h
    obtain ⟨gn, hg1, hg2⟩ := bodied_some hbod
    have hdf := hf.dfs
    rw [hd] at hdf
    obtain ⟨d', ds', hds', hD, hds⟩ := hdf.cons_inv
    rcases hD with ⟨_, _, _, h1, _⟩ | ⟨g', cap', h1, h2, hA⟩
    · cases h1
    · injection h1 with h1a h1b
      injection h1a with h1c
      subst h1c
      simp only at hA
      split at h
      · rename_i v pc σ hc
        have hinv : (invoke d'.target d'.args).run P w = .ok (.enter g (d'.args ++ cap')) w := by
          rw [h2]; simp only [invoke]; exact callFunc_enter hg1 hg2 _ w
        have hst := step_defer (P := P) (fr := { b.atR a todo with mode := mode }) (cs := cs) hmr hds' h2 hinv
        have hpc0 : PcR ρ ch .deferred ({ { b.atR a todo with mode := mode } with defers := ds' } :: cs) := by
          cases ch with
          | none => exact .inr ⟨rfl, _, _, rfl, hmode⟩
          | some c => obtain ⟨c', hcc, hm⟩ := hmode; exact ⟨rfl, _, _, c', rfl, hm, hcc⟩
        -- on with the rest, once the way of going is known
        have key : ∀ ch1, σ.next ≤ r.w.next → ev.unw f ch1 { fr with defers := ds, wk := σ } = some r → (∀ ρ' cs1 m, PcR ρ' pc .deferred cs1 → (∃ c0 rr, cs1 = c0 :: rr ∧ c0.mode = m) →
            (match ch1 with | none => settle m = .returning | some c => ∃ c', ChR ρ' c c' ∧ settle m = .panicking c')) →
            ∃ ρ' frl cs' w', Evo G ρ fr.wk w ρ' r.w w' ∧ PcR ρ' r.pc b.kind cs' ∧ CsMod b.kind cs cs' ∧ Steps P (lone { b.atR a todo with mode := mode } cs w) (lone frl cs' w') ∧ Leav P ρ' f b.kind r.e frl w' := by
          intro ch1 hle hu hset
          obtain ⟨ρ1, frl, cs1, w1, e1, p1, m1, s1, hlfn, hlk, hld, fnv, hlf, v', hv', hlm, hlr⟩ := he.call hc ρ (d'.args ++ cap') .deferred _ w (by simpa using hA) hpc0 hr (hfresh.first hle)
          obtain ⟨m, rfl⟩ := m1.deferred
          have hgo : frl.going P w1 (.returned v') := ⟨hlm, hld, fnv, by rw [hlfn]; exact hlf, hlr⟩
          have hback := step_going_returned (P := P) (c := { { { b.atR a todo with mode := mode } with defers := ds' } with mode := m }) (cs := cs) hlk hgo
          have hF : Fst P ρ1 none f { fr with defers := ds, wk := σ } b { a with defers := ds' } cs :=
            ⟨hf.fn, hf.rnd, hf.tm.mono e1.ext, hf.n, hds.mono e1.ext, hf.pc.mono e1.ext⟩
          obtain ⟨ρ2, frl2, cs2, w2, k1, k2, k3, k4, k5⟩ := he.unw hu ρ1 b { a with defers := ds' } cs w1 todo (settle m) hF (hset ρ1 _ m p1 ⟨_, _, rfl, rfl⟩) e1.rel (hfresh.second e1)
          exact ⟨ρ2, frl2, cs2, w2, e1.trans k1, k2, k3, (Steps.head hst s1).trans (Steps.head hback k4), k5⟩
        have hcn := he.callN hc
        split at h
        · refine key none (he.unwN h) h fun ρ' cs1 m hp hm => ?_
          obtain ⟨c0, rr, rfl, rfl⟩ := hm
          rcases hp with hp | ⟨_, c1, r1, e1, hp⟩
          · cases hp
          · cases e1; simp only [hp, settle]
        · rename_i x older _
          cases hxr : x.recovered with
          | true =>
            rw [hxr] at h
            simp only [cond_true] at h
            obtain ⟨hall, h⟩ := cond_some h
            refine key none (he.unwN h) h fun ρ' cs1 m hp hm => ?_
            obtain ⟨c0, rr, rfl, rfl⟩ := hm
            obtain ⟨_, c1, r1, ch', e1, hp, hch⟩ := hp
            cases e1
            cases ch' with
            | nil => exact hch.elim
            | cons y ys =>
              obtain ⟨yv, yr, yg⟩ := y
              obtain ⟨⟨_, h3, _⟩, h4⟩ := hch
              simp only at h3
              rw [hxr] at h3; subst h3
              simp only [hp, settle, dropWhile_goexit h4 hall]
          | false =>
            rw [hxr] at h
            simp only [cond_false] at h
            refine key (some (x :: older)) (he.unwN h) h fun ρ' cs1 m hp hm => ?_
            obtain ⟨c0, rr, rfl, rfl⟩ := hm
            obtain ⟨_, c1, r1, ch', e1, hp, hch⟩ := hp
            cases e1
            cases ch' with
            | nil => exact hch.elim
            | cons y ys =>
              obtain ⟨yv, yr, yg⟩ := y
              have h3 := hch.1.2.1
              simp only at h3
              rw [hxr] at h3; subst h3
              exact ⟨_, hch, by simp only [hp, settle]⟩
        · cases h
      · cases h
  · cases h
  · -- none is left
    rename_i hd
    have hdf := hf.dfs
    rw [hd] at hdf
    have hnil := hdf.nil_inv
    split at h
    · cases h
    · rename_i fnv hfv
      have hfv' := (fnAt_some hfv).1
      split at h
      · rename_i c hc
        cases h
        obtain ⟨c', hcc, rfl⟩ := hmode
        exact ⟨ρ, _, cs, w, Evo.refl hr, hf.pc, CsMod.refl _ _, Steps.refl P _, hf.fn, rfl, hnil, fnv, hfv', c', hcc, rfl⟩
      · split at h
        · rename_i v hv
          cases h
          obtain ⟨v', q1, q2⟩ := results_sound hr hf.tm hv (.inl ⟨v, rfl, rfl⟩)
          exact ⟨ρ, _, cs, w, Evo.refl hr, hf.pc, CsMod.refl _ _, Steps.refl P _, hf.fn, rfl, hnil, fnv, hfv', v', q1, hmode, q2⟩
        · rename_i vs hne hv
          cases h
          obtain ⟨v', q1, q2⟩ := results_sound hr hf.tm hv (.inr ⟨fun x e => hne x e, rfl⟩)
          exact ⟨ρ, _, cs, w, Evo.refl hr, hf.pc, CsMod.refl _ _, Steps.refl P _, hf.fn, rfl, hnil, fnv, hfv', v', q1, hmode, q2⟩
        · cases h

theorem tmR_args {args : List Value} {args' : Array Value} (h : LR ρ args args'.toList) (n : Nat) : TmR ρ (Tr.ofList args) (args' ++ Array.replicate n undef) := by
  intro t v hv
  rw [Tr.get_ofList] at hv
  obtain ⟨v', h1, h2⟩ := h.get hv
  have h1' : args'[t]? = some v' := by simpa using h1
  have hlt := (Array.getElem?_eq_some_iff.1 h1').1
  exact ⟨v', by rw [Array.getElem?_append_left hlt]; exact h1', h2⟩

theorem callS_sound {ev : Ev} (he : EvSound P G ev) {f : Nat} {args : List Value} {pc : Option (List PanicEntry)} {σ : SW} {r : CR} (h : callS P ev f args pc σ = some r) : CallOk P G f args pc σ r := by
  unfold callS at h
  split at h
  · rename_i fn hfn
    have hfn' := (fnAt_some hfn).1
    split at h
    · rename_i c hbody
      have key : ∀ (e : Ex) (fr : Fr) (ch : Option (List PanicEntry)), ev.code none f c { tm := Tr.ofList args, n := fn.ntmps, defers := [], pc := pc, wk := σ } = some (e, fr) → ev.unw f ch fr = some r →
          ((e = .normal ∧ ch = none) ∨ (e = .ret ∧ ch = none) ∨ ∃ x, e = .panic x ∧ ch = some x) → CallOk P G f args pc σ r := by
        intro e fr ch hcode hunw hcase ρ args' kind cs w hA hpc hr hfresh
        obtain ⟨b, hb⟩ : ∃ b : Frame, b = { (default : Frame) with fn := f, kind := kind, roundOf := none } := ⟨_, rfl⟩
        have hbk : b.kind = kind := by subst hb; rfl
        have hbr : b.roundOf = none := by subst hb; rfl
        have hbf : b.fn = f := by subst hb; rfl
        have henter : Frame.enter P f args' kind = b.atR { tmps := args' ++ Array.replicate (fn.ntmps - args'.size) undef, defers := [] } [.code c] := by
          subst hb; simp [Frame.enter, Frame.atR, hfn', hbody]
        have hF : Fst P ρ none f { tm := Tr.ofList args, n := fn.ntmps, defers := [], pc := pc, wk := σ } b { tmps := args' ++ Array.replicate (fn.ntmps - args'.size) undef, defers := [] } cs :=
          ⟨hbf, hbr, tmR_args hA _, by simp; omega, trivial, by rw [hbk]; exact hpc⟩
        obtain ⟨ρ1, a1, cs1, w1, e1, F1, m1, s1⟩ := he.code hcode ρ b _ cs w [] hF hr (hfresh.first (he.unwN hunw))
        rw [← henter] at s1
        rw [hbk] at m1
        have done : ∀ todo mode, (match ch with | none => mode = .returning | some c => ∃ c', ChR ρ1 c c' ∧ mode = .panicking c') →
            Steps P (lone (Frame.enter P f args' kind) cs w) (lone { b.atR a1 todo with mode := mode } cs1 w1) →
            ∃ ρ' frl cs' w', Evo G ρ σ w ρ' r.w w' ∧ PcR ρ' r.pc kind cs' ∧ CsMod kind cs cs' ∧ Steps P (lone (Frame.enter P f args' kind) cs w) (lone frl cs' w') ∧ Leav P ρ' f kind r.e frl w' := by
          intro todo mode hm hs
          obtain ⟨ρ2, frl, cs2, w2, e2, p2, m2, s2, l2⟩ := he.unw hunw ρ1 b a1 cs1 w1 todo mode F1 hm e1.rel (hfresh.second e1)
          rw [hbk] at p2 m2 l2
          exact ⟨ρ2, frl, cs2, w2, e1.trans e2, p2, m1.trans m2, hs.trans s2, l2⟩
        rcases hcase with ⟨rfl, rfl⟩ | ⟨rfl, rfl⟩ | ⟨x, rfl, rfl⟩
        · exact done [] .returning rfl (s1.trans (Steps.one (stepR_end hbr)))
        · obtain ⟨k0, s1⟩ := s1
          exact done _ .returning rfl (s1.trans (Steps.one (stepR_ret hbr)))
        · obtain ⟨ch', k0, hcc, s1⟩ := s1
          exact done k0 (.panicking ch') ⟨ch', hcc, rfl⟩ s1
      split at h
      · rename_i fr hcode
        exact key _ _ _ hcode h (.inl ⟨rfl, rfl⟩)
      · rename_i fr hcode
        exact key _ _ _ hcode h (.inr (.inl ⟨rfl, rfl⟩))
      · rename_i x fr hcode
        exact key _ _ _ hcode h (.inr (.inr ⟨x, rfl, rfl⟩))
      · cases h
    · cases h
  · cases h

theorem chkC_some {n : Nat} {r : Option CR} {x : CR} (h : chkC n r = some x) : r = some x ∧ n ≤ x.w.next := by
  unfold chkC at h
  split at h
  · obtain ⟨hb, h⟩ := cond_some h
    cases h
    exact ⟨rfl, Nat.le_of_ble_eq_true hb⟩
  · cases h

theorem stepE_sound (hG : G = P.globals.size) (hmix : P.follows .mixedOrders = true) {ev : Ev} (he : EvSound P G ev) : EvSound P G (stepE P ev) where
  code h := codeS_sound hG hmix he (chk_some h).1
  call h := callS_sound he (chkC_some h).1
  unw h := unwS_sound hG he (chkC_some h).1
  codeN h := (chk_some h).2
  callN h := (chkC_some h).2
  unwN h := (chkC_some h).2

theorem ev_sound (hG : G = P.globals.size) (hmix : P.follows .mixedOrders = true) : ∀ n : Nat, EvSound P G (ev P n)
  | 0 => ⟨fun h => by simp [ev, evB] at h, fun h => by simp [ev, evB] at h, fun h => by simp [ev, evB] at h, fun h => by simp [ev, evB] at h, fun h => by simp [ev, evB] at h, fun h => by simp [ev, evB] at h⟩
  | n + 1 => stepE_sound hG hmix (ev_sound hG hmix n)

/-! ### A closed run -/
/-- The package-level variables alone are known by name. -/
def rho0 (G : Nat) : Rho := fun g => if g < G then some (g, 0) else none
theorem rel0 (G : Nat) (w : World) : Rel G (rho0 G) ⟨.lf, G⟩ w :=
  ⟨fun i o h => by simp [Tr.get] at h, fun i j o p b c d h => by simp [Tr.get] at h, fun g hg => ⟨0, by simp [rho0, hg]⟩, Nat.le_refl _⟩

end Go.Sh
