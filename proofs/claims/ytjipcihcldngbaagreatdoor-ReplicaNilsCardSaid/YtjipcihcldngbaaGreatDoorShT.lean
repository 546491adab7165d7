/- Shadow evaluation, 20: a region in the text's order. -/
import Derived.Test.YtjipcihcldngbaaGreatDoorShS
namespace Go.Sh
variable {P : Program} {ρ : Rho} {G : Nat}

theorem cls_defer {o : Oper} (h : cls P o ≠ .eff) (c : Call) : o.op ≠ .defer c := by
  intro e; apply h; unfold cls; rw [e]

theorem operS_sound (hG : G = P.globals.size) {ev : Ev} (he : EvSound P G ev) {rnd : Option Nat} {fn : Nat} {o : Oper} {fr fr' : Fr} {e : Ex} (h : operS P ev rnd o fr = some (e, fr')) :
    OpOk P G rnd fn o fr e fr' ∧ fr.wk.next ≤ fr'.wk.next := by
  unfold operS at h
  split at h
  · rename_i hc
    split at h
    · rename_i v hv
      split at h
      · rename_i f hput
        cases h
        refine ⟨?_, by rw [put_wk hput]; exact Nat.le_refl _⟩
        intro ρ b a cs w ops j rest k ho hw hf hr hfresh
        obtain ⟨v', h1, h2⟩ := pureOp_sound (hf.env hr hG) hv
        exact fin_value ho hw (cls_defer (by rw [hc]; simp)) hf (h2 w) h1 (Evo.refl hr) hput
      · cases h
    · cases h
  · rename_i hc
    split at h
    · rename_i v hv
      split at h
      · rename_i f hput
        cases h
        refine ⟨?_, by rw [put_wk hput]; exact Nat.le_refl _⟩
        intro ρ b a cs w ops j rest k ho hw hf hr hfresh
        obtain ⟨v', h1, h2⟩ := readOp_sound (hf.env hr hG) hr hv
        exact fin_value ho hw (cls_defer (by rw [hc]; simp)) hf h2 h1 (Evo.refl hr) hput
      · cases h
    · cases h
  · rename_i hc
    split at h
    · rename_i ob mk hal
      split at h
      · rename_i f hput
        cases h
        refine ⟨?_, by rw [put_wk hput]; exact Nat.le_succ _⟩
        intro ρ b a cs w ops j rest k ho hw hf hr hfresh
        have hwk := put_wk hput
        obtain ⟨ob', mk', h1, h2, h3⟩ := allocOp_sound (hf.env hr hG) hal
        have hev := evo_obj hr (hfresh _ (Nat.le_refl _) (by rw [hwk]; exact Nat.lt_succ_self _)) h1
        exact fin_value ho hw (cls_defer (by rw [hc]; simp)) hf (h2 w) (h3 _ _ _ (upd_same _ _ _)) hev hput
      · cases h
    · cases h
  · obtain ⟨h1, h2⟩ := chk_some h
    exact ⟨effOp_sound hG he h1, h2⟩

def OpsOk (P : Program) (G : Nat) (rnd : Option Nat) (fn : Nat) (ops : Array Oper) (l : List Nat) (fr : Fr) (e : Ex) (fr' : Fr) : Prop :=
  ∀ ρ b a cs w k, Fst P ρ rnd fn fr b a cs → Rel G ρ fr.wk w → Fresh ρ fr.wk fr'.wk →
    ∃ ρ' a' cs' w', Evo G ρ fr.wk w ρ' fr'.wk w' ∧ Fst P ρ' rnd fn fr' b a' cs' ∧ CsMod b.kind cs cs' ∧ ArrR P ρ' (lone (b.atR a (.inRegion ops l :: k)) cs w) b k e a' cs' w'

theorem ArrR.pass {m : Machine} {b : Frame} {x : Item} {k : List Item} {e : Ex} {a : Act} {cs : List Frame} {w : World} (he : e ≠ .normal) (hx : x.plain = true) (h : ArrR P ρ m b (x :: k) e a cs w) : ArrR P ρ m b k e a cs w := by
  cases e with
  | normal => exact absurd rfl he
  | exit id => obtain ⟨k0, h1, h2⟩ := h; exact ⟨k0, h1, h2.trans (exitTo_plain hx id k)⟩
  | ret => exact h
  | panic ch => exact h

theorem opsS_sound (hG : G = P.globals.size) {ev : Ev} (he : EvSound P G ev) {rnd : Option Nat} {fn : Nat} {ops : Array Oper} : ∀ {l : List Nat} {fr fr' : Fr} {e : Ex}, opsS P ev rnd ops l fr = some (e, fr') →
    OpsOk P G rnd fn ops l fr e fr' ∧ fr.wk.next ≤ fr'.wk.next
  | [], fr, fr', e, h => by
    simp only [opsS] at h; cases h
    refine ⟨?_, Nat.le_refl _⟩
    intro ρ b a cs w k hf hr _
    exact ⟨ρ, a, cs, w, Evo.refl hr, hf, CsMod.refl _ _, Steps.one stepR_region_end⟩
  | i :: rest, fr, fr', e, h => by
    simp only [opsS] at h
    split at h
    · cases h
    · rename_i o ho
      split at h
      · rename_i hwant
        split at h
        · rename_i f1 h1
          obtain ⟨ok1, n1⟩ := operS_sound (fn := fn) hG he h1
          obtain ⟨ok2, n2⟩ := opsS_sound hG he (fn := fn) h
          refine ⟨?_, Nat.le_trans n1 n2⟩
          intro ρ b a cs w k hf hr hfresh
          obtain ⟨ρ1, a1, cs1, w1, ev1, hf1, m1, _, s1⟩ := ok1 ρ b a cs w ops i rest k ho (wantedS_sound hf hwant) hf hr (hfresh.first n2)
          obtain ⟨ρ2, a2, cs2, w2, ev2, hf2, m2, s2⟩ := ok2 ρ1 b a1 cs1 w1 k hf1 ev1.rel (hfresh.second ev1)
          exact ⟨ρ2, a2, cs2, w2, ev1.trans ev2, hf2, m1.trans m2, ArrR.of_steps s1 s2⟩
        · rename_i r hne
          obtain ⟨ok1, n1⟩ := operS_sound (fn := fn) hG he h
          refine ⟨?_, n1⟩
          intro ρ b a cs w k hf hr hfresh
          obtain ⟨ρ1, a1, cs1, w1, ev1, hf1, m1, _, s1⟩ := ok1 ρ b a cs w ops i rest k ho (wantedS_sound hf hwant) hf hr hfresh
          exact ⟨ρ1, a1, cs1, w1, ev1, hf1, m1, ArrR.pass (fun e0 => hne _ (by rw [h, e0])) rfl s1⟩
      · rename_i hwant
        split at h
        · rename_i f1 hput
          obtain ⟨ok2, n2⟩ := opsS_sound hG he (fn := fn) h
          have hwk := put_wk hput
          refine ⟨?_, by rw [hwk] at n2; exact n2⟩
          intro ρ b a cs w k hf hr hfresh
          have hw := wantedS_sound hf hwant
          have hsk := stepR_op_skip (P := P) (b := b) (a := a) (k := k) (cs := cs) (w := w) (ops := ops) (i := i) (rest := rest) (by rw [ho]; simpa using hw)
          rw [ho] at hsk
          simp only [Option.bind_some] at hsk
          obtain ⟨hf1, _⟩ := hf.put (undefR ρ) hput
          obtain ⟨ρ2, a2, cs2, w2, ev2, hf2, m2, s2⟩ := ok2 ρ b (a.put o.dst undef) cs w k hf1 (by rw [hwk]; exact hr) (by rw [hwk]; exact hfresh)
          rw [hwk] at ev2
          exact ⟨ρ2, a2, cs2, w2, ev2, hf2, m2, ArrR.of_steps (Steps.one hsk) s2⟩
        · cases h
      · cases h

end Go.Sh
