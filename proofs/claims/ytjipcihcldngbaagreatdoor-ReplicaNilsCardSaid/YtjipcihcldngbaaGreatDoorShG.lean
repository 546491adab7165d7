/- Shadow evaluation, 7: what needs no memory is right: all. -/
import Derived.Test.YtjipcihcldngbaaGreatDoorShF
namespace Go.Sh
variable {P : Program} {ρ : Rho}

theorem VR.int_inv {k : IntKind} {z : Int} {v' : Value} (h : VR ρ (.int k z) v') : v' = .int k z := by cases h; rfl
theorem VR.bool_inv {b : Bool} {v' : Value} (h : VR ρ (.bool b) v') : v' = .bool b := by cases h; rfl
theorem VR.ptr_inv {i off : Nat} {v' : Value} (h : VR ρ (.pointer (some ⟨i, off, none⟩)) v') : ∃ b c, ρ i = some (b, c) ∧ v' = .pointer (some ⟨b, off, none⟩) := by
  cases h with | ptr _ _ b c h => exact ⟨b, c, h, rfl⟩
theorem VR.ptr_inv' {a : Addr} {v' : Value} (h : VR ρ (.pointer (some a)) v') : ∃ i off b c, a = ⟨i, off, none⟩ ∧ ρ i = some (b, c) ∧ v' = .pointer (some ⟨b, off, none⟩) := by
  cases h with | ptr i off b c h => exact ⟨i, off, b, c, rfl, h, rfl⟩
theorem VR.slice_inv {i off n c : Nat} {v' : Value} (h : VR ρ (.slice (some ⟨i, off, none⟩) n c) v') :
    ∃ b cc c', ρ i = some (b, cc) ∧ v' = .slice (some ⟨b, off, none⟩) n c' ∧ ((c ≠ CAPX ∧ c ≠ CAPY ∧ c' = c) ∨ (c = CAPX ∧ off = 0 ∧ c' = cc ∧ n ≤ cc) ∨ (c = CAPY ∧ n ≤ c')) := by
  cases h with
  | sl _ _ _ _ b cc h hc => exact ⟨b, cc, _, h, rfl, .inl ⟨hc.1, hc.2, rfl⟩⟩
  | slx _ _ b cc h hn => exact ⟨b, cc, _, h, rfl, .inr (.inl ⟨rfl, rfl, rfl, hn⟩)⟩
  | sly _ _ _ b cc c' h hn => exact ⟨b, cc, _, h, rfl, .inr (.inr ⟨rfl, hn⟩)⟩
theorem VR.func_inv {fn : Fn} {a b : Array Value} {v' : Value} (h : VR ρ (.func fn a b) v') (hf : ∀ l, fn ≠ .yield l) :
    ∃ a' b', v' = .func fn a' b' ∧ LR ρ a.toList a'.toList ∧ LR ρ b.toList b'.toList := by
  cases h with
  | func _ _ _ a' b' _ ha hb h h' =>
    exact ⟨a', b', rfl, ⟨by simpa using ha, fun j v v' hv hv' => h j v v' (by simpa using hv) (by simpa using hv')⟩, ⟨by simpa using hb, fun j v v' hv hv' => h' j v v' (by simpa using hv) (by simpa using hv')⟩⟩
  | yield i b c h => exact absurd rfl (hf i)
theorem VR.of_func {fn : Fn} {a b a' b' : List Value} (hf : ∀ l, fn ≠ .yield l) (ha : LR ρ a a') (hb : LR ρ b b') : VR ρ (.func fn ⟨a⟩ ⟨b⟩) (.func fn ⟨a'⟩ ⟨b'⟩) :=
  .func _ _ _ _ _ hf (by simpa using ha.len) (by simpa using hb.len) (fun j v v' hv hv' => ha.at_ j v v' (by simpa using hv) (by simpa using hv')) (fun j v v' hv hv' => hb.at_ j v v' (by simpa using hv) (by simpa using hv'))
theorem VR.iface_inv {t : TypeId} {v v' : Value} (h : VR ρ (.iface t v) v') : ∃ u, v' = .iface t u ∧ VR ρ v u := by
  cases h with | iface _ _ u h => exact ⟨u, rfl, h⟩
theorem VR.mk_slice {i off n c b cc : Nat} (h : ρ i = some (b, cc)) (hc : c < CAPY) : VR ρ (.slice (some ⟨i, off, none⟩) n c) (.slice (some ⟨b, off, none⟩) n c) := .sl _ _ _ _ _ _ h (by have := capy_lt; omega)

theorem bound_R {e : Env} {f : Operand → Value} (he : EnvR ρ e f) {x : Operand} {d hi n : Nat} (h : boundS e (some x) d hi = some n) :
    ∃ k z, f x = .int k z ∧ 0 ≤ z ∧ z ≤ hi ∧ z.toNat = n ∧ n ≤ hi := by
  simp only [boundS] at h
  split at h
  · rename_i k z hz
    obtain ⟨hb, h⟩ := cond_some h
    cases h
    simp only [Bool.and_eq_true, decide_eq_true_eq] at hb
    have h2 := Nat.le_of_ble_eq_true hb.2
    exact ⟨k, z, (he x _ hz).int_inv, hb.1, by omega, rfl, h2⟩
  · cases h

theorem run_sliceBound {x : Value} {k : IntKind} {z : Int} {y : Nat} {code : BoundsCode} (hx : x = .int k z) (h0 : 0 ≤ z) (h1 : z ≤ y) (w : World) :
    (Instr.sliceBound x y code).run P w = .ok z.toNat w := by
  subst hx
  simp [Instr.sliceBound, asIntOf, h0, h1]

theorem Addr.add_plain (b off n : Nat) : (⟨b, off, none⟩ : Addr).add n = ⟨b, off + n, none⟩ := by
  unfold Addr.add; split <;> simp_all

theorem nilCmp_sound {t : TypeId} {x y x' y' : Value} (hx : VR ρ x x') (hy : VR ρ y y') (h : nilCmp P t x y = true) (w : World) :
    (Op.equal t x' y').run P w = .ok false w ∧ (∀ op a b, (eqGuard op t a b x' y').run P w = .ok () w) ∧
    (binOp .eql t x' y' = (do pure (.bool (← Op.equal t x' y')))) ∧ (binOp .neq t x' y' = (do pure (.bool (!(← Op.equal t x' y'))))) := by
  unfold nilCmp at h
  split at h <;> first
    | (simp at h; done)
    | (rename_i hu
       cases hx <;> cases hy
       all_goals (refine ⟨?_, ?_, ?_, ?_⟩ <;> first
         | (show ((Op.equalIn (9999 + 1) _ _ _).run P w = _); unfold Op.equalIn; simp only [Sem.run_bind, run_underlying (und_some hu), Result.andThen_ok]; rfl)
         | (intro op a b; cases op <;> simp [eqGuard])
         | rfl))

end Go.Sh
