/- Shadow evaluation, 9: what needs no memory is right. -/
import Derived.Test.YtjipcihcldngbaaGreatDoorShH
namespace Go.Sh
variable {P : Program} {ρ : Rho}

def HasV (P : Program) (ρ : Rho) (f : Operand → Value) (o : Oper) (v : Value) : Prop := ∃ v', VR ρ v v' ∧ ∀ w, (execOp f o).run P w = .ok (.value v') w

theorem HasV.plain {e : Env} {f : Operand → Value} (he : EnvR ρ e f) {o : Oper} {v : Value} (h : plainOp P e o = some v) : HasV P ρ f o v :=
  ⟨v, (plainOp_sound he h).1, (plainOp_sound he h).2⟩

theorem map_mk {α β : Type} (f : α → β) (a : Array α) : a.map f = ⟨a.toList.map f⟩ := Array.ext' (by simp)
theorem fields_get {fields : Array Field} {f : Nat} {fd : Field} (h : fields.toList[f]? = some fd) : fields[f]? = some fd := by simpa using h

theorem run_fieldAt {s : TypeId} {fields : Array Field} {f : Nat} {fd : Field} {fi : TypeInfo} {b off : Nat} (hu : und P s = some (.struct fields)) (hf : fields.toList[f]? = some fd)
    (hi : inf P fd.type = some fi) (hz : fi.size ≠ 0) (w : World) : (Instr.fieldAt s (.pointer (some ⟨b, off, none⟩)) f).run P w = .ok (.pointer (some ⟨b, off + fd.offset, none⟩)) w := by
  simp only [Instr.fieldAt, Sem.run_bind, run_underlying (und_some hu), Result.andThen_ok, fields_get hf, Instr.sureAddr, Sem.run_pure, fieldPlace, run_sizeOf' hi]
  simp [hz, Addr.add_plain]

theorem run_indexAt_slice {t el : TypeId} {ei : TypeInfo} {b off n c : Nat} {k : IntKind} {z : Int} (hu : und P t = some (.slice el)) (hi : inf P el = some ei) (h0 : 0 ≤ z) (h1 : z < n) (w : World) :
    (Instr.indexAt t (.slice (some ⟨b, off, none⟩) n c) (.int k z)).run P w = .ok (.pointer (some ⟨b, off + z.toNat * ei.size, none⟩)) w := by
  simp only [Instr.indexAt, asIntOf, Sem.run_bind, run_underlying (und_some hu), Result.andThen_ok, Sem.run_pure]
  simp [h0, h1, run_sizeOf' hi, Addr.add_plain]
theorem run_indexAt_arr {t el : TypeId} {ei : TypeInfo} {b off n : Nat} {k : IntKind} {z : Int} (hu : und P t = some (.array n el)) (hi : inf P el = some ei) (h0 : 0 ≤ z) (h1 : z < n) (w : World) :
    (Instr.indexAt t (.pointer (some ⟨b, off, none⟩)) (.int k z)).run P w = .ok (.pointer (some ⟨b, off + z.toNat * ei.size, none⟩)) w := by
  simp only [Instr.indexAt, asIntOf, Sem.run_bind, run_underlying (und_some hu), Result.andThen_ok, Sem.run_pure, Instr.sureAddr]
  simp [h0, h1, run_sizeOf' hi, Addr.add_plain]

theorem followS_sound : ∀ {path : List FieldStep} {t : TypeId} {v v' : Value} {xt : TypeId} {u : Value}, VR ρ v v' → followS P path t v = some (xt, u) →
    ∃ u', VR ρ u u' ∧ ∀ w, (follow path t (.val v')).run P w = .ok (xt, .val u') w ∧ (followBlind path t (some v')).run P w = .ok (.ok (xt, some u')) w
  | [], t, v, v', xt, u, hv, h => by
    simp only [followS] at h; cases h
    exact ⟨v', hv, fun w => ⟨rfl, rfl⟩⟩
  | s :: r, t, v, v', xt, u, hv, h => by
    simp only [followS] at h
    split at h
    · rename_i fields cs hd hu
      split at h
      · rename_i fd hf
        split at h
        · rename_i x hx
          obtain ⟨a', rfl, hR⟩ := hv.agg_inv
          obtain ⟨x', hxR, hxr⟩ := part_sound hR hx
          obtain ⟨u', hu', hr⟩ := followS_sound hxR h
          refine ⟨u', hu', fun w => ⟨?_, ?_⟩⟩
          · simp only [follow, Sem.run_bind, run_underlying (und_some hu), Result.andThen_ok, fields_get hf, hd]
            rw [show (⟨a'.toList⟩ : Array Value) = a' from rfl] at hxr
            rw [if_neg (by simp), Sem.run_bind, hxr w]
            exact (hr w).1
          · simp only [followBlind, Sem.run_bind, run_underlying (und_some hu), Result.andThen_ok, fields_get hf, hd]
            rw [show (⟨a'.toList⟩ : Array Value) = a' from rfl] at hxr
            rw [hxr w]
            exact (hr w).2
        · cases h
      · cases h
    · cases h

theorem run_typeInfo' {t : TypeId} {i : TypeInfo} (h : inf P t = some i) (w : World) : (typeInfo t).run P w = .ok i w := by simp [typeInfo, inf_some h]

theorem headOk_sound {t : TypeId} {v v' : Value} {name : String} (hv : VR ρ v v') (h : headOk P t v name = true) (n : Nat) (w : World) :
    (nilAhead (n + 1) t v' name).run P w = .ok (some false) w := by
  unfold headOk at h
  split at h
  · rename_i i hi
    split at h
    · rename_i m hm
      split at h
      · rename_i f x hfn hfo
        obtain ⟨xt, u⟩ := x
        obtain ⟨u', _, hr⟩ := followS_sound hv hfo
        simp only [nilAhead, Sem.run_bind, run_typeInfo' hi, Result.andThen_ok, hm, (hr w).2, hfn]
        rfl
      · rename_i f xt u hfn hfo
        obtain ⟨u', hu', hr⟩ := followS_sound hv hfo
        simp only [nilAhead, Sem.run_bind, run_typeInfo' hi, Result.andThen_ok, hm, (hr w).2, hfn]
        split at h
        · rename_i el a hx
          obtain ⟨i', off, b, c, rfl, _, rfl⟩ := hu'.ptr_inv'
          simp only [run_underlying (und_some hx), Result.andThen_ok]
          rfl
        · cases h
        · rename_i d hn1 hn2 hx
          simp only [run_underlying (und_some hn2), Result.andThen_ok]
          cases d <;> first | rfl | exact absurd rfl (hn1 _)
        · cases h
      · cases h
    · cases h
  · cases h

theorem methodS_sound {t : TypeId} {v v' u : Value} {name : String} {g : FuncId} (hv : VR ρ v v') (h : methodS P t v name = some (g, u)) (n : Nat) :
    ∃ u', VR ρ u u' ∧ ∀ w, (method (n + 1) t v' name).run P w = .ok (g, u') w := by
  unfold methodS at h
  split at h
  · rename_i i hi
    split at h
    · rename_i m hm
      split at h
      · rename_i f ptr xt u0 hfn hfo
        obtain ⟨u', hu', hr⟩ := followS_sound hv hfo
        split at h
        · rename_i el hx
          obtain ⟨hp, h⟩ := cond_some h
          cases h
          refine ⟨u', hu', fun w => ?_⟩
          simp only [method, Sem.run_bind, run_typeInfo' hi, Result.andThen_ok, hm, (hr w).1, hfn, receiverAt, run_underlying (und_some hx), hp]
          rfl
        · rename_i d hn hx
          obtain ⟨hp, h⟩ := cond_none h
          cases h
          refine ⟨u', hu', fun w => ?_⟩
          simp only [method, Sem.run_bind, run_typeInfo' hi, Result.andThen_ok, hm, (hr w).1, hfn, receiverAt, run_underlying (und_some hx), hp]
          cases d <;> first | rfl | exact absurd rfl (hn _)
        · cases h
      · cases h
    · cases h
  · cases h

theorem run_binOp_cmp {op : BinOp} (hop : op = .eql ∨ op = .neq) {t yt : TypeId} {x y : Operand} {e : Env} {f : Operand → Value} (he : EnvR ρ e f) {a b : Value} (ha : e x = some a) (hb : e y = some b) (h : nilCmp P t a b = true)
    {dst : Option Tmp} {ty : TypeId} {pos : String} {after : Array Edge} {guard : Option (Nat × Bool)} (w : World) :
    (execOp f { dst := dst, op := .binOp op t x y yt, type := ty, pos := pos, after := after, guard := guard }).run P w = .ok (.value (.bool (op matches .neq))) w := by
  obtain ⟨h1, h2, h3, h4⟩ := nilCmp_sound (he x a ha) (he y b hb) h w
  refine run_v ?_
  simp only [Sem.run_bind, h2, Result.andThen_ok]
  rcases hop with rfl | rfl
  · rw [h3]; simp only [Sem.run_bind, h1, Result.andThen_ok, Sem.run_pure]
  · rw [h4]; simp only [Sem.run_bind, h1, Result.andThen_ok, Sem.run_pure]; rfl

theorem nilCheck_sound {e : Env} {f : Operand → Value} (he : EnvR ρ e f) {x : Operand} {v : Value} {dst : Option Tmp} {ty : TypeId} {pos : String} {after : Array Edge} {guard : Option (Nat × Bool)}
    (h : pureOp P e { dst := dst, op := .nilCheck x, type := ty, pos := pos, after := after, guard := guard } = some v) :
    HasV P ρ f { dst := dst, op := .nilCheck x, type := ty, pos := pos, after := after, guard := guard } v := by
  simp only [pureOp] at h
  split at h
  · rename_i a ha
    cases h
    have := he x _ ha
    obtain ⟨i, off, b, c, rfl, hρ, hx⟩ := this.ptr_inv'
    exact ⟨_, .ptr i off b c hρ, fun w => by simp [execOp, hx]⟩
  · rename_i g a b ha
    cases h
    obtain ⟨a', b', hx, h1, h2⟩ := (he x _ ha).func_inv (by simp)
    exact ⟨_, he x _ ha, fun w => by simp [execOp, hx]⟩
  · rename_i name a b ha
    split at h
    · rename_i t w0 r hl
      obtain ⟨hb, h⟩ := cond_some h
      cases h
      obtain ⟨a', b', hx, h1, h2⟩ := (he x _ ha).func_inv (by simp)
      rw [hl] at h1
      obtain ⟨y, r', hl', hy, _⟩ := h1.cons_inv
      obtain ⟨u, rfl, hu⟩ := hy.iface_inv
      refine ⟨_, he x _ ha, fun w => ?_⟩
      have h0 : a'[0]? = some (.iface t u) := by
        rw [← Array.getElem?_toList, hl']; rfl
      have hn : P.types.size + Made.depth = (P.types.size + Made.depth - 1) + 1 := by unfold Made.depth; omega
      simp only [execOp, hx, h0, Sem.run_bind, run_program, Result.andThen_ok]
      rw [hn, headOk_sound hu hb]
      rfl
    · cases h
  · cases h

theorem pureOp_sound {e : Env} {f : Operand → Value} (he : EnvR ρ e f) {o : Oper} {v : Value} (h : pureOp P e o = some v) : HasV P ρ f o v := by
  obtain ⟨dst, op, ty, pos, after, guard⟩ := o
  cases op <;> try exact HasV.plain he h
  case move x => exact ⟨_, he x v h, fun w => rfl⟩
  case assign x => exact ⟨_, he x v h, fun w => rfl⟩
  case nilCheck x => exact nilCheck_sound he h
  case pick c a b =>
    simp only [pureOp] at h
    split at h
    · rename_i hc
      have := (he c _ hc).bool_inv
      exact ⟨_, he a v h, fun w => by simp [execOp, this, asBool]⟩
    · rename_i hc
      have := (he c _ hc).bool_inv
      exact ⟨_, he b v h, fun w => by simp [execOp, this, asBool]⟩
    · cases h
  case extract x i =>
    simp only [pureOp] at h
    split at h
    · rename_i vs hx
      obtain ⟨a', hx', hR⟩ := (he x _ hx).tuple_inv
      obtain ⟨v', hv', hr⟩ := hR.get h
      exact ⟨v', hr, fun w => run_v (by rw [Array.getElem?_toList] at hv'; simp [hx', Instr.extract, hv'])⟩
    · cases h
  case fieldAddr s x k =>
    simp only [pureOp] at h
    split at h
    · rename_i i off fields hx hu
      split at h
      · rename_i fd hf
        split at h
        · rename_i fi hfi
          obtain ⟨hz, h⟩ := cond_none h
          cases h
          obtain ⟨b, c, hρ, hx'⟩ := (he x _ hx).ptr_inv
          exact ⟨_, .ptr i _ b c hρ, fun w => run_v (by rw [hx']; exact run_fieldAt hu hf hfi (fun e0 => by rw [e0] at hz; cases hz) w)⟩
        · cases h
      · cases h
    · cases h
  case indexAddr t x ix =>
    simp only [pureOp] at h
    split at h
    · rename_i i off n c k z el hx hix hu
      split at h
      · rename_i ei hei
        obtain ⟨hb, h⟩ := cond_some h
        cases h
        simp only [Bool.and_eq_true, decide_eq_true_eq] at hb
        have hlt := blt_lt hb.2
        obtain ⟨b, cc, c', hρ, hx', _⟩ := (he x _ hx).slice_inv
        have hi' := (he ix _ hix).int_inv
        exact ⟨_, .ptr i _ b cc hρ, fun w => run_v (by rw [hx', hi']; exact run_indexAt_slice hu hei hb.1 (by omega) w)⟩
      · cases h
    · rename_i i off k z n el hx hix hu
      split at h
      · rename_i ei hei
        obtain ⟨hb, h⟩ := cond_some h
        cases h
        simp only [Bool.and_eq_true, decide_eq_true_eq] at hb
        have hlt := blt_lt hb.2
        obtain ⟨b, c, hρ, hx'⟩ := (he x _ hx).ptr_inv
        have hi' := (he ix _ hix).int_inv
        exact ⟨_, .ptr i _ b c hρ, fun w => run_v (by rw [hx', hi']; exact run_indexAt_arr hu hei hb.1 (by omega) w)⟩
      · cases h
    · cases h
  case slice t x lo hi mx =>
    simp only [pureOp] at h
    split at h
    · rename_i u hx
      split at h
      · rename_i r hr
        cases h
        obtain ⟨v', hv', hrun⟩ := sliceS_sound he (he x _ hx) hr
        exact ⟨v', hv', fun w => run_v (hrun w)⟩
      · exact HasV.plain he h
    · cases h
  case makeInterface t x =>
    simp only [pureOp] at h
    split at h
    · cases h
    · rename_i u d hn hx hu
      cases h
      refine ⟨_, .iface t _ _ (he x _ hx), fun w => run_v ?_⟩
      simp only [Instr.makeInterface, Sem.run_bind, run_underlying (und_some hu), Result.andThen_ok]
      cases d <;> first | rfl | exact absurd rfl (hn _)
    · cases h
  case makeFunc fn a b =>
    cases fn <;> simp only [pureOp] at h <;> try exact HasV.plain he h
    case func g =>
      split at h
      · rename_i u1 u2 h1 h2
        cases h
        refine ⟨_, VR.of_func (by simp) (evArgs_R he h1) (evArgs_R he h2), fun w => run_v ?_⟩
        simp [Instr.makeFunc, map_mk]
      · cases h
    case method name =>
      split at h
      · rename_i u1 u2 h1 h2
        cases h
        refine ⟨_, VR.of_func (by simp) (evArgs_R he h1) (evArgs_R he h2), fun w => run_v ?_⟩
        simp [Instr.makeFunc, map_mk]
      · cases h
  case build t parts =>
    simp only [pureOp] at h
    split at h
    · rename_i l hl
      obtain ⟨v', hv', hrun⟩ := buildS_sound (evParts_R he hl) h
      exact ⟨v', hv', fun w => run_v (by rw [← hrun w, map_mk])⟩
    · cases h
  case field t x k =>
    simp only [pureOp] at h
    split at h
    · rename_i cs fields hx hu
      split at h
      · rename_i fd hf
        obtain ⟨a', hx', hR⟩ := (he x _ hx).agg_inv
        obtain ⟨v', hv', hrun⟩ := part_sound hR h
        refine ⟨v', hv', fun w => run_v ?_⟩
        simp only [Instr.field, Sem.run_bind, run_underlying (und_some hu), Result.andThen_ok, fields_get hf, hx', asAgg, Sem.run_pure]
        exact hrun w
      · cases h
    · cases h
  case index t x ix =>
    simp only [pureOp] at h
    split at h
    · rename_i cs k z n el hx hix hu
      split at h
      · rename_i ei hei
        obtain ⟨hb, h⟩ := cond_some h
        simp only [Bool.and_eq_true, decide_eq_true_eq] at hb
        have hlt := blt_lt hb.2
        obtain ⟨a', hx', hR⟩ := (he x _ hx).agg_inv
        have hi' := (he ix _ hix).int_inv
        obtain ⟨v', hv', hrun⟩ := part_sound hR h
        refine ⟨v', hv', fun w => run_v ?_⟩
        have h0 : 0 ≤ z ∧ z < n := ⟨hb.1, by omega⟩
        simp only [Instr.index, hi', asIntOf, Sem.run_pure, Sem.run_bind, run_underlying (und_some hu), Result.andThen_ok, hx', h0, and_self, if_true, run_sizeOf' hei]
        exact hrun w
      · cases h
    · exact HasV.plain he h
  case typeAssert x xt asserted ok =>
    simp only [pureOp] at h
    split at h
    · cases h
    · rename_i t u d hn hx hu
      obtain ⟨u', hx', hR⟩ := (he x _ hx).iface_inv
      have hnd : ∀ ms, d ≠ .interface ms := fun ms e => hn ms (by rw [e])
      by_cases ht : t = asserted
      · subst ht
        rw [Nat.beq_refl, cond_true] at h
        cases h
        cases ok with
        | true =>
          refine ⟨_, VR.of_tuple (LR.cons hR (LR.cons (.bool true) (LR.nil ρ))), fun w => run_v ?_⟩
          simp only [Instr.typeAssert, Sem.run_bind, run_underlying (und_some hu), Result.andThen_ok, hx']
          cases d <;> first | (simp; done) | exact absurd rfl (hnd _)
        | false =>
          refine ⟨_, hR, fun w => run_v ?_⟩
          simp only [Instr.typeAssert, Sem.run_bind, run_underlying (und_some hu), Result.andThen_ok, hx']
          cases d <;> first | (simp; done) | exact absurd rfl (hnd _)
      · have hbq : Nat.beq t asserted = false := by rw [← Bool.not_eq_true]; exact fun e => ht (Nat.eq_of_beq_eq_true e)
        rw [hbq, cond_false] at h
        cases ok with
        | false => cases h
        | true =>
          simp only [cond_true] at h
          split at h
          · rename_i i hi
            split at h
            · rename_i z hz
              obtain ⟨hp, h⟩ := cond_some h
              cases h
              refine ⟨_, VR.of_tuple (LR.cons (plain_refl ρ hp) (LR.cons (.bool false) (LR.nil ρ))), fun w => run_v ?_⟩
              simp only [Instr.typeAssert, Sem.run_bind, run_underlying (und_some hu), Result.andThen_ok, hx']
              cases d <;> first | (simp [ht, zeroValue, run_typeInfo' hi, hz]; done) | exact absurd rfl (hnd _)
            · cases h
          · cases h
    · cases h
  case binOp op t x y yt =>
    cases op <;> simp only [pureOp] at h <;> try exact HasV.plain he h
    case eql =>
      split at h
      · rename_i a b ha hb
        cases hc : nilCmp P t a b with
        | true =>
          rw [hc] at h; cases h
          exact ⟨_, .bool false, fun w => run_binOp_cmp (.inl rfl) he ha hb hc w⟩
        | false => rw [hc] at h; exact HasV.plain he h
      · cases h
    case neq =>
      split at h
      · rename_i a b ha hb
        cases hc : nilCmp P t a b with
        | true =>
          rw [hc] at h; cases h
          exact ⟨_, .bool true, fun w => run_binOp_cmp (.inr rfl) he ha hb hc w⟩
        | false => rw [hc] at h; exact HasV.plain he h
      · cases h

end Go.Sh
