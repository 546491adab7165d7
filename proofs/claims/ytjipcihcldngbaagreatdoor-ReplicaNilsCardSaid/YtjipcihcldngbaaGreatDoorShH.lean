/- Shadow evaluation, 8: what needs no memory is right: slice expressions. -/
import Derived.Test.YtjipcihcldngbaaGreatDoorShG
namespace Go.Sh
variable {P : Program} {ρ : Rho}

theorem run_v {s : Sem Value} {a : Value} {w w' : World} (h : s.run P w = .ok a w') : (do pure (Next.value (← s)) : Sem Next).run P w = .ok (.value a) w' := by
  simp only [Sem.run_bind, h, Result.andThen_ok, Sem.run_pure]

def BOpt (y : Option Value) (d hi n : Nat) : Prop := (y = none ∧ n = d) ∨ ∃ k z, y = some (.int k z) ∧ 0 ≤ z ∧ z ≤ hi ∧ z.toNat = n

theorem bound_opt {e : Env} {f : Operand → Value} (he : EnvR ρ e f) {y : Option Operand} {d hi n : Nat} (h : boundS e y d hi = some n) (hd : d ≤ hi) :
    BOpt (y.map f) d hi n ∧ n ≤ hi := by
  cases y with
  | none => simp [boundS] at h; subst h; exact ⟨.inl ⟨rfl, rfl⟩, hd⟩
  | some y =>
    obtain ⟨k, z, hz, h0, h1, h2, hle⟩ := bound_R he h
    exact ⟨.inr ⟨k, z, by rw [Option.map_some, hz], h0, h1, h2⟩, hle⟩
theorem BOpt.mono {y : Option Value} {d hi hi' n : Nat} (h : BOpt y d hi n) (hh : hi ≤ hi') : BOpt y d hi' n := by
  rcases h with h | ⟨k, z, a, b, c, d⟩
  · exact .inl h
  · exact .inr ⟨k, z, a, b, by omega, d⟩

theorem run_bounds {isSlice : Bool} {n cap l h : Nat} {lo hi : Option Value} (hhi : BOpt hi n cap h) (hlo : BOpt lo 0 h l) (w : World) :
    (Instr.sliceBounds isSlice n cap lo hi none).run P w = .ok (l, h, cap) w := by
  rcases hhi with ⟨rfl, rfl⟩ | ⟨k, z, rfl, a0, a1, rfl⟩ <;> rcases hlo with ⟨rfl, rfl⟩ | ⟨k', z', rfl, b0, b1, rfl⟩
  · simp [Instr.sliceBounds]
  · simp [Instr.sliceBounds, run_sliceBound rfl b0 b1]
  · simp [Instr.sliceBounds, run_sliceBound rfl a0 a1]
  · simp [Instr.sliceBounds, run_sliceBound rfl a0 a1, run_sliceBound rfl b0 b1]
theorem run_bounds_max {isSlice : Bool} {n cap l h m : Nat} {lo hi mx : Option Value} (hmx : ∃ k z, mx = some (.int k z) ∧ 0 ≤ z ∧ z ≤ cap ∧ z.toNat = m) (hhi : ∃ k z, hi = some (.int k z) ∧ 0 ≤ z ∧ z ≤ m ∧ z.toNat = h) (hlo : BOpt lo 0 h l) (w : World) :
    (Instr.sliceBounds isSlice n cap lo hi mx).run P w = .ok (l, h, m) w := by
  obtain ⟨k, z, rfl, a0, a1, rfl⟩ := hmx
  obtain ⟨k1, z1, rfl, c0, c1, rfl⟩ := hhi
  rcases hlo with ⟨rfl, rfl⟩ | ⟨k', z', rfl, b0, b1, rfl⟩
  · simp [Instr.sliceBounds, run_sliceBound rfl a0 a1, run_sliceBound rfl c0 c1]
  · simp [Instr.sliceBounds, run_sliceBound rfl a0 a1, run_sliceBound rfl c0 c1, run_sliceBound rfl b0 b1]

theorem run_sliceAt {t el : TypeId} {ei : TypeInfo} {b off n c l h m : Nat} {lo hi mx : Option Value} (hu : P.underlying t = some (.slice el)) (hi' : inf P el = some ei) (w : World)
    (hb : ∀ isS, (Instr.sliceBounds isS n c lo hi mx).run P w = .ok (l, h, m) w) :
    (Instr.sliceAt t (.slice (some ⟨b, off, none⟩) n c) lo hi mx).run P w = .ok (.slice (some ⟨b, off + (if m = l then 0 else l * ei.size), none⟩) (h - l) (m - l)) w := by
  simp only [Instr.sliceAt, Instr.slice, Sem.run_bind, run_underlying hu, Result.andThen_ok, hb, run_sizeOf' hi', Sem.run_pure]
  by_cases e : m = l
  · simp [e]
  · simp [e, Addr.add_plain]
theorem run_sliceAt_arr {t el : TypeId} {ei : TypeInfo} {b off n l h m : Nat} {lo hi mx : Option Value} (hu : P.underlying t = some (.array n el)) (hi' : inf P el = some ei) (w : World)
    (hb : ∀ isS, (Instr.sliceBounds isS n n lo hi mx).run P w = .ok (l, h, m) w) :
    (Instr.sliceAt t (.pointer (some ⟨b, off, none⟩)) lo hi mx).run P w = .ok (.slice (some ⟨b, off + (if m = l then 0 else l * ei.size), none⟩) (h - l) (m - l)) w := by
  simp only [Instr.sliceAt, Instr.sureAddr, Sem.run_bind, run_underlying hu, Result.andThen_ok, hb, run_sizeOf' hi', Sem.run_pure]
  by_cases e : m = l
  · simp [e]
  · simp [e, Addr.add_plain]

theorem cond_beq_ite {a b : Nat} {x y : Nat} : (bif Nat.beq a b then x else y) = if a = b then x else y := by
  by_cases h : a = b
  · subst h; simp
  · have : Nat.beq a b = false := by rw [← Bool.not_eq_true]; exact fun e => h (Nat.eq_of_beq_eq_true e)
    rw [this, if_neg h]; rfl
theorem blt_lt {a b : Nat} (h : Nat.blt a b = true) : a < b := Nat.le_of_ble_eq_true h

theorem sliceS_sound {e : Env} {f : Operand → Value} (he : EnvR ρ e f) {t : TypeId} {x x' v : Value} {lo hi mx : Option Operand} (hx : VR ρ x x') (h : sliceS P t x e lo hi mx = some v) :
    ∃ v', VR ρ v v' ∧ ∀ w, (Instr.sliceAt t x' (lo.map f) (hi.map f) (mx.map f)).run P w = .ok v' w := by
  unfold sliceS at h
  split at h
  · -- a slice
    rename_i el i off n c hu
    obtain ⟨b, cc, c', hρ, rfl, hcc⟩ := hx.slice_inv
    split at h
    · rename_i ei hei
      split at h
      · split at h
        · rename_i hN hhi
          split at h
          · rename_i l hlo
            obtain ⟨b1, b1'⟩ := bound_opt he hhi (Nat.le_refl _)
            obtain ⟨b2, b2'⟩ := bound_opt he hlo (Nat.zero_le _)
            cases hx0 : (Nat.beq c CAPX && Nat.beq l 0 && Nat.beq off 0) with
            | true =>
              rw [hx0, cond_true] at h
              cases h
              simp only [Bool.and_eq_true] at hx0
              have hcap := Nat.eq_of_beq_eq_true hx0.1.1
              have hl0 := Nat.eq_of_beq_eq_true hx0.1.2
              have ho0 := Nat.eq_of_beq_eq_true hx0.2
              subst hcap; subst hl0; subst ho0
              obtain ⟨hc1, _⟩ | ⟨_, _, rfl, hn⟩ | ⟨hc1, _⟩ := hcc
              · exact absurd rfl hc1
              · refine ⟨.slice (some ⟨b, 0, none⟩) hN c', .slx _ _ _ _ hρ (by omega), fun w => ?_⟩
                have := run_sliceAt (b := b) (off := 0) (und_some hu) hei w (fun isS => run_bounds (isSlice := isS) (b1.mono hn) b2 w)
                simpa using this
              · exact absurd hc1 (by have := capy_lt; omega)
            | false =>
              rw [hx0, cond_false] at h
              cases hy : (Nat.beq c CAPX || Nat.beq c CAPY) with
              | true =>
                rw [hy, cond_true] at h
                obtain ⟨hb, h⟩ := cond_some h
                cases h
                have hlt := blt_lt hb
                have hn : n ≤ c' := by
                  obtain ⟨hc1, hc2, _⟩ | ⟨_, _, rfl, hn⟩ | ⟨_, hn⟩ := hcc
                  · simp only [Bool.or_eq_true] at hy
                    rcases hy with hy | hy
                    · exact absurd (Nat.eq_of_beq_eq_true hy) hc1
                    · exact absurd (Nat.eq_of_beq_eq_true hy) hc2
                  · exact hn
                  · exact hn
                refine ⟨.slice (some ⟨b, off + l * ei.size, none⟩) (hN - l) (c' - l), .sly _ _ _ _ _ _ hρ (by omega), fun w => ?_⟩
                have := run_sliceAt (b := b) (off := off) (und_some hu) hei w (fun isS => run_bounds (isSlice := isS) (b1.mono hn) b2 w)
                rw [if_neg (show ¬ c' = l by omega)] at this
                exact this
              | false =>
                rw [hy, cond_false] at h
                obtain ⟨hb, h⟩ := cond_some h
                cases h
                simp only [Bool.and_eq_true] at hb
                have h1 := Nat.le_of_ble_eq_true hb.1
                have h2 := blt_lt hb.2
                simp only [Bool.or_eq_false_iff] at hy
                have n1 : c ≠ CAPX := fun e => by subst e; simp at hy
                have n2 : c ≠ CAPY := fun e => by subst e; simp at hy
                obtain ⟨_, _, rfl⟩ | ⟨hc1, _⟩ | ⟨hc1, _⟩ := hcc
                · refine ⟨_, VR.mk_slice hρ h2, fun w => ?_⟩
                  rw [cond_beq_ite]
                  have hhb : BOpt (hi.map f) n c' hN := by
                    rcases b1 with ⟨q, rfl⟩ | ⟨k, z, q1, q2, q3, q4⟩
                    · exact .inl ⟨q, rfl⟩
                    · exact .inr ⟨k, z, q1, q2, by omega, q4⟩
                  exact run_sliceAt (und_some hu) hei w (fun isS => run_bounds (isSlice := isS) hhb b2 w)
                · exact absurd hc1 n1
                · exact absurd hc1 n2
          · cases h
        · cases h
      · split at h
        · rename_i m hm
          split at h
          · cases h
          · split at h
            · rename_i hN hhi
              split at h
              · rename_i l hlo
                obtain ⟨hb, h⟩ := cond_some h
                cases h
                obtain ⟨k, z, hz, a0, a1, a2, a3⟩ := bound_R he hm
                obtain ⟨k1, z1, hz1, c0, c1, c2, c3⟩ := bound_R he hhi
                obtain ⟨b2, _⟩ := bound_opt he hlo (Nat.zero_le _)
                refine ⟨_, VR.mk_slice hρ (blt_lt hb), fun w => ?_⟩
                rw [cond_beq_ite]
                refine run_sliceAt (und_some hu) hei w (fun isS => run_bounds_max (isSlice := isS) ⟨k, z, by rw [Option.map_some, hz], a0, ?_, a2⟩ ⟨k1, z1, by rw [Option.map_some, hz1], c0, by omega, c2⟩ b2 w)
                cases hy : (Nat.beq c CAPX || Nat.beq c CAPY) with
                | true =>
                  rw [hy, cond_true] at a1
                  simp only [Bool.or_eq_true] at hy
                  obtain ⟨q1, q2, _⟩ | ⟨_, _, rfl, hn⟩ | ⟨_, hn⟩ := hcc
                  · rcases hy with hy | hy
                    · exact absurd (Nat.eq_of_beq_eq_true hy) q1
                    · exact absurd (Nat.eq_of_beq_eq_true hy) q2
                  · omega
                  · omega
                | false =>
                  rw [hy, cond_false] at a1
                  simp only [Bool.or_eq_false_iff] at hy
                  obtain ⟨_, _, rfl⟩ | ⟨q, _⟩ | ⟨q, _⟩ := hcc
                  · exact a1
                  · subst q; simp at hy
                  · subst q; simp at hy
              · cases h
            · cases h
        · cases h
    · cases h
  · rename_i n el i off hu
    obtain ⟨b, cc, hρ, rfl⟩ := hx.ptr_inv
    split at h
    · rename_i ei hei
      split at h
      · rename_i hN hhi
        split at h
        · rename_i l hlo
          obtain ⟨hb, h⟩ := cond_some h
          cases h
          obtain ⟨b1, b1'⟩ := bound_opt he hhi (Nat.le_refl _)
          obtain ⟨b2, b2'⟩ := bound_opt he hlo (Nat.zero_le _)
          refine ⟨_, VR.mk_slice hρ (blt_lt hb), fun w => ?_⟩
          rw [cond_beq_ite]
          exact run_sliceAt_arr (und_some hu) hei w (fun isS => run_bounds (isSlice := isS) b1 b2 w)
        · cases h
      · cases h
    · cases h
  · cases h

end Go.Sh
