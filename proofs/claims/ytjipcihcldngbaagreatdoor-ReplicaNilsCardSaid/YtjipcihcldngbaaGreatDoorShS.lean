/- Shadow evaluation, 19: operations that write or call. -/
import Derived.Test.YtjipcihcldngbaaGreatDoorShR
namespace Go.Sh
variable {P : Program} {ρ : Rho} {G : Nat}

theorem run_builtin_append {f : Operand → Value} {args : Array Operand} {argTypes : Array TypeId} {dst : Option Tmp} {ty : TypeId} {pos : String} {after : Array Edge} {guard : Option (Nat × Bool)} {s x : Operand} {t tx : TypeId}
    (ha : args.toList = [s, x]) (ht : argTypes.toList = [t, tx]) {w w' : World} {v : Value} (h : (Builtin.append_ #[t, tx] ty #[f s, f x]).run P w = .ok v w') :
    (execOp f { dst := dst, op := .call { callee := .builtin .append, args := args, argTypes := argTypes }, type := ty, pos := pos, after := after, guard := guard }).run P w = .ok (.value v) w' := by
  obtain rfl : args = #[s, x] := by cases args; simp at ha; simp [ha]
  obtain rfl : argTypes = #[t, tx] := by cases argTypes; simp at ht; simp [ht]
  have hm : (#[s, x] : Array Operand).map f = #[f s, f x] := by simp
  simp only [execOp, resolve, invoke, builtin, hm, Sem.run_bind, Sem.run_pure, Result.andThen_ok, h]

theorem run_builtin_delete {f : Operand → Value} {args : Array Operand} {argTypes : Array TypeId} {dst : Option Tmp} {ty : TypeId} {pos : String} {after : Array Edge} {guard : Option (Nat × Bool)} {s x : Operand} {t tx : TypeId}
    (ha : args.toList = [s, x]) (ht : argTypes.toList = [t, tx]) {w w' : World} {v : Value} (h : (Builtin.delete_ #[t, tx] ty #[f s, f x]).run P w = .ok v w') :
    (execOp f { dst := dst, op := .call { callee := .builtin .delete, args := args, argTypes := argTypes }, type := ty, pos := pos, after := after, guard := guard }).run P w = .ok (.value v) w' := by
  obtain rfl : args = #[s, x] := by cases args; simp at ha; simp [ha]
  obtain rfl : argTypes = #[t, tx] := by cases argTypes; simp at ht; simp [ht]
  have hm : (#[s, x] : Array Operand).map f = #[f s, f x] := by simp
  simp only [execOp, resolve, invoke, builtin, hm, Sem.run_bind, Sem.run_pure, Result.andThen_ok, h]

theorem effOp_sound (hG : G = P.globals.size) {ev : Ev} (he : EvSound P G ev) {rnd : Option Nat} {fn : Nat} {o : Oper} {fr fr' : Fr} {e : Ex} (h : effOp P ev rnd o fr = some (e, fr')) : OpOk P G rnd fn o fr e fr' := by
  obtain ⟨dst, op, ty, pos, after, guard⟩ := o
  cases op <;> try (simp [effOp] at h; done)
  case store t x v =>
    simp only [effOp] at h
    split at h
    · rename_i i off u hx hu
      split at h
      · rename_i σ hσ
        obtain ⟨rfl, hput⟩ := fin_some h
        intro ρ b a cs w ops j rest k ho hw hf hr hfresh
        have hE := hf.env hr hG
        obtain ⟨b', c', hρ, hx'⟩ := (hE x _ hx).ptr_inv
        obtain ⟨w', hrun, hev⟩ := store_sound hG hr (hE v _ hu) hρ hσ
        exact fin_skip ho hw (by simp) hf (by refine run_u ?_; rw [hx']; exact hrun) hev hput
      · cases h
    · cases h
  case mapUpdate t m k0 v =>
    simp only [effOp] at h
    split at h
    · rename_i i kv u hm hk hu
      split at h
      · rename_i σ hσ
        obtain ⟨rfl, hput⟩ := fin_some h
        intro ρ b a cs w ops j rest k ho hw hf hr hfresh
        have hE := hf.env hr hG
        have hm' : ∃ b' c', ρ i = some (b', c') ∧ a.eval m = .map (some b') := by
          have := hE m _ hm
          generalize a.eval m = y at this
          cases this with | map _ b' c' h => exact ⟨b', c', h, rfl⟩
        obtain ⟨b', c', hρ, hm'⟩ := hm'
        obtain ⟨hp, w', hrun, hev⟩ := mapUpdate_sound hG hr (hE v _ hu) hρ hσ
        have hk' := plain_eq hp (hE k0 _ hk)
        exact fin_skip ho hw (by simp) hf (by refine run_u ?_; rw [hm', hk']; exact hrun) hev hput
      · cases h
    · cases h
  case insert t m k0 v =>
    simp only [effOp] at h
    split at h
    · rename_i i kv u hm hk hu
      split at h
      · rename_i σ hσ
        obtain ⟨rfl, hput⟩ := fin_some h
        intro ρ b a cs w ops j rest k ho hw hf hr hfresh
        have hE := hf.env hr hG
        have hm' : ∃ b' c', ρ i = some (b', c') ∧ a.eval m = .map (some b') := by
          have := hE m _ hm
          generalize a.eval m = y at this
          cases this with | map _ b' c' h => exact ⟨b', c', h, rfl⟩
        obtain ⟨b', c', hρ, hm'⟩ := hm'
        obtain ⟨hp, w', hrun, hev⟩ := mapUpdate_sound hG hr (hE v _ hu) hρ hσ
        have hk' := plain_eq hp (hE k0 _ hk)
        exact fin_skip ho hw (by simp) hf (by refine run_u ?_; rw [hm', hk']; exact hrun) hev hput
      · cases h
    · cases h
  case convert s0 d0 x =>
    have hpl : (match plainOp P (fr.env P) { dst := dst, op := .convert s0 d0 x, type := ty, pos := pos, after := after, guard := guard } with
        | some v => (match ({ fr with wk := fr.wk } : Fr).put dst v with | some f => some (Ex.normal, f) | none => none)
        | none => none) = some (e, fr') → OpOk P G rnd fn { dst := dst, op := .convert s0 d0 x, type := ty, pos := pos, after := after, guard := guard } fr e fr' := by
      intro h
      split at h
      · rename_i v hv
        obtain ⟨rfl, hput⟩ := fin_some h
        intro ρ b a cs w ops j rest k ho hw hf hr hfresh
        obtain ⟨h1, h2⟩ := plainOp_sound (hf.env hr hG) hv
        exact fin_value ho hw (by simp) hf (h2 w) h1 (Evo.refl hr) hput
      · cases h
    simp only [effOp] at h
    split at h
    · rename_i bs el hx hs hd
      split at h
      · rename_i v σ hb
        obtain ⟨rfl, hput⟩ := fin_some h
        intro ρ b a cs w ops j rest k ho hw hf hr hfresh
        have hE := hf.env hr hG
        have hwk := put_wk hput
        rw [hwk] at hfresh
        have hxe : a.eval x = .string bs := by
          have := hE x _ hx
          generalize a.eval x = y at this
          cases this; rfl
        obtain ⟨v', w', ρ', hrun, hv, hev⟩ := toBytes_sound hr hfresh hs hd hb
        exact fin_value ho hw (by simp) hf (run_v (by rw [hxe]; exact hrun)) hv hev hput
      · cases h
    · rename_i i off n c te el hx hs hd
      obtain ⟨hb, h⟩ := cond_some h
      obtain ⟨rfl, hput⟩ := fin_some h
      simp only [Bool.and_eq_true] at hb
      obtain ⟨⟨hsd, hu8⟩, hGi, hlive⟩ := hb
      have hsd := Nat.eq_of_beq_eq_true hsd
      subst hsd
      have hel : und P el = some (.int .u8) := by
        unfold isU8 at hu8
        split at hu8
        · rename_i hk; exact hk
        · cases hu8
      obtain ⟨c0, hc0⟩ := Option.isSome_iff_exists.1 hlive
      intro ρ b a cs w ops j rest k ho hw hf hr hfresh
      have hE := hf.env hr hG
      have hxv := hE x _ hx
      obtain ⟨b', cc, c', hρ, hxe, _⟩ := hxv.slice_inv
      obtain ⟨w', hrun, hev⟩ := same_sound (n := n) (c' := c') (off := off) hr (by rw [hG]; exact Nat.le_of_ble_eq_true hGi) hρ hc0 hs hd hel
      exact fin_value ho hw (by simp) hf (run_v (by rw [hxe]; exact hrun)) (by rw [← hxe]; exact hxv) hev hput
    · exact hpl h
  case range t x =>
    simp only [effOp] at h
    split at h
    · rename_i v hx
      split at h
      · rename_i ob hob
        obtain ⟨rfl, hput⟩ := fin_some h
        intro ρ b a cs w ops j rest k ho hw hf hr hfresh
        have hE := hf.env hr hG
        have hwk := put_wk hput
        obtain ⟨v', w', ρ', hrun, hv, hev⟩ := range_sound hr (hfresh _ (Nat.le_refl _) (by rw [hwk]; exact Nat.lt_succ_self _)) (hE x _ hx) hob
        exact fin_value ho hw (by simp) hf (run_v hrun) hv hev hput
      · cases h
    · cases h
  case next x s =>
    simp only [effOp] at h
    split at h
    · rename_i i hx
      obtain ⟨hb, h⟩ := cond_some h
      split at h
      · rename_i v σ hn
        obtain ⟨rfl, hput⟩ := fin_some h
        intro ρ b a cs w ops j rest k ho hw hf hr hfresh
        have hE := hf.env hr hG
        obtain ⟨b', c', hρ, hx'⟩ := (hE x _ hx).ptr_inv
        obtain ⟨v', w', hrun, hv, hev⟩ := next_sound (P := P) hr (by rw [hG]; exact Nat.le_of_ble_eq_true hb) hρ (ty := ty) hn
        exact fin_value ho hw (by simp) hf (run_v (by rw [hx']; exact hrun)) hv hev hput
      · cases h
    · cases h
  case panic x =>
    simp only [effOp] at h
    split at h
    · rename_i t v hx
      cases h
      intro ρ b a cs w ops j rest k ho hw hf hr hfresh
      have hE := hf.env hr hG
      obtain ⟨v', hx', hv⟩ := (hE x _ hx).iface_inv
      have hrun : (execOp a.eval { dst := dst, op := .panic x, type := ty, pos := pos, after := after, guard := guard }).run P w = .halt (.panic (.iface t v')) w := by
        simp only [execOp, Instr.panic, hx', Sem.run_bind, run_goPanic, Result.andThen_halt]
      exact ⟨ρ, a, cs, w, Evo.refl hr, hf, CsMod.refl _ _, .inr ⟨by simp, rfl⟩, [{ v := .iface t v', recovered := false }], _, ⟨⟨.iface t v v' hv, rfl, rfl⟩, trivial⟩, Steps.one (step_panic ho hw (by simp) hrun)⟩
    · cases h
  case defer c =>
    simp only [effOp] at h
    split at h
    · rename_i x g args hcal htgt
      split at h
      · rename_i f hput
        cases h
        intro ρ b a cs w ops j rest k ho hw hf hr hfresh
        have hE := hf.env hr hG
        obtain ⟨d', hd', hrun⟩ := target_defer hE hcal htgt ty
        have hb : b.roundOf = none := hf.rnd
        have hrun' : (execOp a.eval { dst := dst, op := .defer c, type := ty, pos := pos, after := after, guard := guard }).run P w = .ok (.defer d') w := by
          simp only [execOp, Sem.run_bind, hrun, Result.andThen_ok, Sem.run_pure]
        have hst := step_deferOp (P := P) (k := k) (cs := cs) (rest := rest) (b := b) ho hw hb hrun'
        have hf1 : Fst P ρ none fn { fr with defers := { target := .fn (.func g) #[], args := ⟨args⟩ } :: fr.defers } b { a with defers := d' :: a.defers } cs :=
          ⟨hf.fn, hf.rnd, hf.tm, hf.n, ⟨hd', hf.dfs⟩, hf.pc⟩
        obtain ⟨h3, h4⟩ := hf1.put (undefR ρ) hput
        exact ⟨ρ, _, cs, w, by rw [h4]; exact Evo.refl hr, h3, CsMod.refl _ _, .inl ⟨rfl, undef, by cases dst <;> rfl⟩, Steps.one hst⟩
      · cases h
    · cases h
  case call c =>
    have hnd : ∀ c', ({ dst := dst, op := .call c, type := ty, pos := pos, after := after, guard := guard } : Oper).op ≠ .defer c' := by simp
    have gen : (match target P (fr.env P) c with
        | some (.enter f args) => match (fnAt P f).map (·.body.isSome) with
          | some true => (match ev.call f args none fr.wk with
            | some ⟨.ret v, _, σ⟩ => (match ({ fr with wk := σ } : Fr).put dst v with | some f => some (Ex.normal, f) | none => none)
            | some ⟨.pan ch, _, σ⟩ => some (.panic ch, { fr with wk := σ })
            | none => none)
          | some false => (match plainOp P (fr.env P) { dst := dst, op := .call c, type := ty, pos := pos, after := after, guard := guard } with
            | some v => (match ({ fr with wk := fr.wk } : Fr).put dst v with | some f => some (Ex.normal, f) | none => none)
            | none => none)
          | none => none
        | some (.round l args) => match fr.wk.heap.get l with
          | some (.loop .ready none f tm n params assign body _) =>
            bif !(Nat.beq args.length params.length && Nat.ble P.globals.size l) then none else
            match ev.code (some l) f assign { tm := roundTm n params args tm, n := n, defers := [], pc := none, wk := fr.wk } with
            | some (.normal, fr1) => match fr1.wk.heap.get l with
              | some (.loop .ready none f2 tm2 n2 params2 assign2 body2 d2) =>
                match ev.code (some l) f body { fr1 with wk := { fr1.wk with heap := fr1.wk.heap.put l (some (.loop .busy none f2 tm2 n2 params2 assign2 body2 d2)) } } with
                | some (x, fr2) =>
                  (match fr2.wk.heap.get l with
                  | some (.loop _ _ f3 tm3 n3 params3 assign3 body3 d3) =>
                    (match x with
                    | .normal => (match ({ fr with wk := { fr2.wk with heap := fr2.wk.heap.put l (some (.loop .ready none f3 tm3 n3 params3 assign3 body3 d3)) } } : Fr).put dst (.bool true) with | some f => some (Ex.normal, f) | none => none)
                    | .ret => (match ({ fr with wk := { fr2.wk with heap := fr2.wk.heap.put l (some (.loop .done (some .ret) f3 tm3 n3 params3 assign3 body3 d3)) } } : Fr).put dst (.bool false) with | some f => some (Ex.normal, f) | none => none)
                    | .exit id => (match ({ fr with wk := { fr2.wk with heap := fr2.wk.heap.put l (some (.loop .done (some (.exit id)) f3 tm3 n3 params3 assign3 body3 d3)) } } : Fr).put dst (.bool false) with | some f => some (Ex.normal, f) | none => none)
                    | .panic _ => none)
                  | _ => none)
                | none => none
              | _ => none
            | _ => none
          | _ => none
        | none => none) = some (e, fr') → OpOk P G rnd fn { dst := dst, op := .call c, type := ty, pos := pos, after := after, guard := guard } fr e fr' := by
      intro h
      split at h
      · rename_i g args htgt
        split at h
        · rename_i hfn
          obtain ⟨fnv, hfv, hbody⟩ := Option.map_eq_some_iff.1 hfn
          have hrun : ∀ ρ b a cs w, Fst P ρ rnd fn fr b a cs → Rel G ρ fr.wk w → ∃ args' : Array Value, LR ρ args args'.toList ∧
              (execOp a.eval { dst := dst, op := .call c, type := ty, pos := pos, after := after, guard := guard }).run P w = .ok (.enter g args') w := fun ρ b a cs w hf hr => by
            obtain ⟨args', h1, h2⟩ := target_enter (hf.env hr hG) htgt hfv hbody ty
            exact ⟨args', h1, h2 w⟩
          split at h
          · rename_i v pc σ hcall
            obtain ⟨rfl, hput⟩ := fin_some h
            exact call_ok he hcall hnd hrun ⟨rfl, hput⟩
          · rename_i ch pc σ hcall
            cases h
            exact call_ok he hcall hnd hrun ⟨rfl, rfl⟩
          · cases h
        · split at h
          · rename_i v hv
            obtain ⟨rfl, hput⟩ := fin_some h
            intro ρ b a cs w ops j rest k ho hw hf hr hfresh
            obtain ⟨h1, h2⟩ := plainOp_sound (hf.env hr hG) hv
            exact fin_value ho hw hnd hf (h2 w) h1 (Evo.refl hr) hput
          · cases h
        · cases h
      · rename_i l args htgt
        have hrun : ∀ ρ b a cs w, Fst P ρ rnd fn fr b a cs → Rel G ρ fr.wk w → ∃ (l' cc : Nat) (args' : Array Value), ρ l = some (l', cc) ∧ LR ρ args args'.toList ∧
            (execOp a.eval { dst := dst, op := .call c, type := ty, pos := pos, after := after, guard := guard }).run P w = (Instr.yield l' args').run P w := fun ρ b a cs w hf hr => by
          obtain ⟨l', cc, args', h1, h2, h3⟩ := target_round (hf.env hr hG) htgt ty
          exact ⟨l', cc, args', h1, h2, h3 w⟩
        split at h
        · rename_i f tm n params assign body d0 hl
          have hb := (cond_none h).1
          replace h := (cond_none h).2
          simp only [Bool.not_eq_false', Bool.and_eq_true] at hb
          have hlen := Nat.eq_of_beq_eq_true hb.1
          have hGl : G ≤ l := by rw [hG]; exact Nat.le_of_ble_eq_true hb.2
          split at h
          · rename_i fr1 h1
            split at h
            · rename_i f2 tm2 n2 params2 assign2 body2 d2 hl1
              split at h
              · rename_i x fr2 h2
                split at h
                · rename_i st3 pend3 f3 tm3 n3 params3 assign3 body3 d3 hl2
                  split at h
                  · obtain ⟨rfl, hput⟩ := fin_some h
                    exact round_ok he (jump := none) hnd hrun hl hlen hGl h1 hl1 h2 hl2 (.inl ⟨rfl, rfl⟩) hput
                  · obtain ⟨rfl, hput⟩ := fin_some h
                    exact round_ok he (jump := some .ret) hnd hrun hl hlen hGl h1 hl1 h2 hl2 (.inr (.inl ⟨rfl, rfl⟩)) hput
                  · rename_i id
                    obtain ⟨rfl, hput⟩ := fin_some h
                    exact round_ok he (jump := some (.exit id)) hnd hrun hl hlen hGl h1 hl1 h2 hl2 (.inr (.inr ⟨id, rfl, rfl⟩)) hput
                  · cases h
                · cases h
              · cases h
            · cases h
          · cases h
        · cases h
      · cases h
    obtain ⟨callee, args, argTypes⟩ := c
    cases callee with
    | value x => simp only [effOp] at h; exact gen h
    | invoke r m => simp only [effOp] at h; exact gen h
    | builtin bi =>
      cases bi <;> simp only [effOp] at h <;> try exact gen h
      case append =>
        split at h
        · rename_i s x t tx hargs htys
          split at h
          · rename_i sv xv hs hx
            split at h
            · rename_i v σ ha
              obtain ⟨rfl, hput⟩ := fin_some h
              intro ρ b a cs w ops j rest k ho hw hf hr hfresh
              have hE := hf.env hr hG
              have hwk := put_wk hput
              rw [hwk] at hfresh
              obtain ⟨v', w', ρ', hrun, hv, hev⟩ : ∃ v' w' ρ', (Builtin.append_ #[t, tx] ty #[a.eval s, a.eval x]).run P w = .ok v' w' ∧ VR ρ' v v' ∧ Evo G ρ fr.wk w ρ' σ w' := by
                unfold appendX at ha
                split at ha
                · rename_i z
                  obtain ⟨hb, ha⟩ := cond_some ha
                  simp only [Bool.and_eq_true, decide_eq_true_eq] at hb
                  have htx : ∃ kn, P.underlying tx = some (.int kn) := by
                    have h1 := hb.1
                    unfold isInt at h1
                    split at h1
                    · rename_i kn hk; exact ⟨kn, und_some hk⟩
                    · cases h1
                  have hxe := (hE x _ hx).int_inv
                  have := make_sound (ty := ty) (kq := .i64) hr hfresh (hE s _ hs) htx ha
                  rw [Int.toNat_of_nonneg hb.2] at this
                  rw [hxe]
                  exact this
                · exact append_sound (ty := ty) hG hr hfresh (hE s _ hs) (hE x _ hx) ha
              exact fin_value ho hw (by simp) hf (run_builtin_append hargs htys hrun) hv hev hput
            · cases h
          · cases h
        · cases h
      case delete =>
        split at h
        · rename_i m k0 t tk hargs htys
          split at h
          · rename_i i kv hm hk
            split at h
            · rename_i σ hσ
              obtain ⟨rfl, hput⟩ := fin_some h
              intro ρ b a cs w ops j rest k ho hw hf hr hfresh
              have hE := hf.env hr hG
              have hm' : ∃ b' c', ρ i = some (b', c') ∧ a.eval m = .map (some b') := by
                have := hE m _ hm
                generalize a.eval m = y at this
                cases this with | map _ b' c' h => exact ⟨b', c', h, rfl⟩
              obtain ⟨b', c', hρ, hm'⟩ := hm'
              obtain ⟨hp, w', hrun, hev⟩ := delete_sound (tk := tk) (ty := ty) hG hr hρ hσ
              have hk' := plain_eq hp (hE k0 _ hk)
              exact fin_value ho hw (by simp) hf (run_builtin_delete hargs htys (by rw [hm', hk']; exact hrun)) (undefR ρ) hev hput
            · cases h
          · cases h
        · cases h
      case recover =>
        split at h
        · rename_i v older hpc
          split at h
          · rename_i f hput
            cases h
            exact recover_ok rfl (.inl ⟨v, older, hpc, hput, rfl⟩)
          · cases h
        · rename_i hpc
          obtain ⟨rfl, hput⟩ := fin_some h
          exact recover_ok rfl (.inr ⟨hpc, hput, rfl⟩)
        · cases h

end Go.Sh
