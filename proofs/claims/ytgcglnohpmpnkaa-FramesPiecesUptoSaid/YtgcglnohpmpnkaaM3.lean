/- Plain: the frames that stand in some bytes. -/
import Derived.Test.YtgcglnohpmpnkaaM1
namespace Go.Proofs.Ytgcglnohpmpnkaa

/-- How the first frame is told: 0, or an error's number. -/
def nextE (l : List UInt8) : Nat :=
  if l.length < 4 then 41 else if 16777216 < num4 l then 3 else if l.length < num4 l + 8 then 41
  else if num4 (l.drop 4) = (crc ((l.drop 8).take (num4 l))).toNat then 0 else 40
def nextL (l : List UInt8) : List UInt8 := (l.drop 8).take (num4 l)
theorem nextE_ok {l : List UInt8} (h : nextE l = 0) : 4 ≤ l.length ∧ num4 l ≤ 16777216 ∧ num4 l + 8 ≤ l.length ∧ num4 (l.drop 4) = (crc ((l.drop 8).take (num4 l))).toNat := by
  unfold nextE at h
  split at h
  · cases h
  · split at h
    · cases h
    · split at h
      · cases h
      · split at h
        · exact ⟨by omega, by omega, by omega, by assumption⟩
        · cases h
theorem nextE_cases (l : List UInt8) : nextE l = 0 ∨ nextE l = 3 ∨ nextE l = 40 ∨ nextE l = 41 := by
  unfold nextE
  split
  · simp
  · split
    · simp
    · split
      · simp
      · split <;> simp

/-- From the beginning on, frame by frame: the loads, how far they go, why no further. -/
inductive Spl : List UInt8 → List (List UInt8) → Nat → Nat → Prop where
  | nil : Spl [] [] 0 0
  | bad (l : List UInt8) (h : l ≠ []) (he : nextE l ≠ 0) : Spl l [] 0 (nextE l)
  | more (l : List UInt8) (ls : List (List UInt8)) (a e : Nat) (h : nextE l = 0) (hs : Spl (l.drop (num4 l + 8)) ls a e) : Spl l (nextL l :: ls) (num4 l + 8 + a) e

theorem nextE_nil : nextE [] = 41 := rfl
theorem Spl.det {l : List UInt8} {ls ls' : List (List UInt8)} {a a' e e' : Nat} (h : Spl l ls a e) (h' : Spl l ls' a' e') : ls = ls' ∧ a = a' ∧ e = e' := by
  induction h generalizing ls' a' e' with
  | nil =>
    cases h' with
    | nil => exact ⟨rfl, rfl, rfl⟩
    | bad _ h _ => exact absurd rfl h
    | more _ _ _ _ h _ => rw [nextE_nil] at h; cases h
  | bad l h he =>
    cases h' with
    | nil => exact absurd rfl h
    | bad _ _ _ => exact ⟨rfl, rfl, rfl⟩
    | more _ _ _ _ h2 _ => exact absurd h2 he
  | more l ls a e h hs ih =>
    cases h' with
    | nil => rw [nextE_nil] at h; cases h
    | bad _ _ h2 => exact absurd h h2
    | more _ _ _ _ _ hs' =>
      obtain ⟨h1, h2, h3⟩ := ih hs'
      exact ⟨by rw [h1], by rw [h2], h3⟩
theorem Spl.le {l : List UInt8} {ls : List (List UInt8)} {a e : Nat} (h : Spl l ls a e) : a ≤ l.length ∧ 8 * ls.length ≤ a := by
  induction h with
  | nil => simp
  | bad l h he => simp
  | more l ls a e h hs ih =>
    have := nextE_ok h
    rw [List.length_drop] at ih
    simp only [List.length_cons]
    omega
/-- What has been found up to a place, and what is to come from there on. -/
def SplTo (l : List UInt8) (ls : List (List UInt8)) (a : Nat) : Prop := a ≤ l.length ∧ 8 * ls.length ≤ a ∧ ∀ ls' a' e, Spl (l.drop a) ls' a' e → Spl l (ls ++ ls') (a + a') e
theorem SplTo.start (l : List UInt8) : SplTo l [] 0 := ⟨Nat.zero_le _, Nat.le_refl _, fun ls' a' e h => by simpa using h⟩
theorem SplTo.step {l : List UInt8} {ls : List (List UInt8)} {a : Nat} (h : SplTo l ls a) (he : nextE (l.drop a) = 0) : SplTo l (ls ++ [nextL (l.drop a)]) (a + (num4 (l.drop a) + 8)) := by
  obtain ⟨h1, h2, h3⟩ := h
  have hk := nextE_ok he
  rw [List.length_drop] at hk
  refine ⟨by omega, by simp; omega, fun ls' a' e hs => ?_⟩
  rw [List.append_assoc, Nat.add_assoc]
  refine h3 _ _ _ (.more _ _ _ _ he ?_)
  rw [List.drop_drop]
  exact hs
theorem SplTo.done {l : List UInt8} {ls : List (List UInt8)} {a : Nat} (h : SplTo l ls a) (ha : l.length ≤ a) : Spl l ls a 0 := by
  have := h.2.2 [] 0 0 (by rw [List.drop_eq_nil_of_le ha]; exact .nil)
  simpa using this
theorem SplTo.stop {l : List UInt8} {ls : List (List UInt8)} {a : Nat} (h : SplTo l ls a) (ha : a < l.length) (he : nextE (l.drop a) ≠ 0) : Spl l ls a (nextE (l.drop a)) := by
  have := h.2.2 [] 0 _ (.bad _ (by intro h0; have := congrArg List.length h0; rw [List.length_drop] at this; simp at this; omega) he)
  simpa using this

end Go.Proofs.Ytgcglnohpmpnkaa
