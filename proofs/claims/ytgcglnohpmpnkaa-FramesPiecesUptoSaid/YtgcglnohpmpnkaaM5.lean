/- Plain: bytes that come in pieces; slices of ints. -/
import Derived.Test.YtgcglnohpmpnkaaAhead
namespace Go.Proofs.Ytgcglnohpmpnkaa
open Go.RowKit

theorem num4_append {x : List UInt8} (p : List UInt8) (h : 4 ≤ x.length) : num4 (x ++ p) = num4 x := by
  have : ∀ k, k < 4 → (x ++ p).getD k 0 = x.getD k 0 := fun k hk => by
    rw [List.getD_eq_getElem?_getD, List.getD_eq_getElem?_getD, List.getElem?_append_left (by omega)]
  unfold num4
  rw [this 0 (by omega), this 1 (by omega), this 2 (by omega), this 3 (by omega)]
theorem next_append {x : List UInt8} (p : List UInt8) (h : nextE x ≠ 41) : nextE (x ++ p) = nextE x ∧ num4 (x ++ p) = num4 x ∧ (nextE x = 0 → nextL (x ++ p) = nextL x) := by
  by_cases h4 : x.length < 4
  · exact absurd (by unfold nextE; rw [if_pos h4]) h
  have e4 := num4_append p (show 4 ≤ x.length by omega)
  by_cases hb : 16777216 < num4 x
  · refine ⟨?_, e4, fun h0 => ?_⟩
    · unfold nextE
      rw [e4, if_neg h4, if_pos hb, List.length_append, if_neg (by omega), if_pos hb]
    · have := nextE_ok h0; omega
  · by_cases hl : x.length < num4 x + 8
    · exact absurd (by unfold nextE; rw [if_neg h4, if_neg hb, if_pos hl]) h
    · have e8 : ((x ++ p).drop 8).take (num4 x) = (x.drop 8).take (num4 x) := by
        rw [List.drop_append_of_le_length (by omega), List.take_append_of_le_length (by rw [List.length_drop]; omega)]
      have e5 : num4 ((x ++ p).drop 4) = num4 (x.drop 4) := by
        rw [List.drop_append_of_le_length (by omega), num4_append _ (by rw [List.length_drop]; omega)]
      refine ⟨?_, e4, fun _ => ?_⟩
      · unfold nextE
        rw [e4, e5, e8, List.length_append, if_neg (by omega), if_neg hb, if_neg (by omega), if_neg h4, if_neg hb, if_neg hl]
      · unfold nextL
        rw [e4, e8]
theorem spl_more {x : List UInt8} {ys : List (List UInt8)} {a e : Nat} (h : Spl x ys a e) : ∀ {p : List UInt8} {ys' : List (List UInt8)} {a' e' : Nat}, Spl (x.drop a ++ p) ys' a' e' → Spl (x ++ p) (ys ++ ys') (a + a') e' := by
  induction h with
  | nil => intro p ys' a' e' h'; simpa using h'
  | bad l h he => intro p ys' a' e' h'; simpa using h'
  | more l ls a e h hs ih =>
    intro p ys' a' e' h'
    have hk := nextE_ok h
    obtain ⟨h1, h2, h3⟩ := next_append p (show nextE l ≠ 41 by omega)
    rw [← List.drop_drop] at h'
    have := ih h'
    rw [← List.drop_append_of_le_length (by omega)] at this
    have := Spl.more (l ++ p) _ _ _ (by rw [h1, h]) (by rw [h2]; exact this)
    rw [h2, h3 h] at this
    rw [Nat.add_assoc]
    exact this
theorem spl_stays {x : List UInt8} {ys : List (List UInt8)} {a e : Nat} (h : Spl x ys a e) (he : e = 3 ∨ e = 40) (p : List UInt8) : ∃ ys' a', Spl (x ++ p) ys' a' e := by
  induction h with
  | nil => omega
  | bad l h hne =>
    obtain ⟨h1, _, _⟩ := next_append p (show nextE l ≠ 41 by omega)
    have := Spl.bad (l ++ p) (by simp [h]) (by rw [h1]; exact hne)
    rw [h1] at this
    exact ⟨_, _, this⟩
  | more l ls a e h hs ih =>
    obtain ⟨ys', a', h'⟩ := ih he
    have hk := nextE_ok h
    obtain ⟨h1, h2, _⟩ := next_append p (show nextE l ≠ 41 by omega)
    rw [← List.drop_append_of_le_length (by omega)] at h'
    exact ⟨_, _, Spl.more (l ++ p) _ _ _ (by rw [h1, h]) (by rw [h2]; exact h')⟩
/-- Whatever has come of bytes that end whole or torn ends whole or torn. -/
theorem spl_prefix {b x p : List UInt8} {ys zs : List (List UInt8)} {a c e f : Nat} (hb : Spl b zs c f) (hf : f = 0 ∨ f = 41) (hx : Spl x ys a e) (hp : x ++ p = b) : pe e = 0 := by
  rcases hx.er_cases with rfl | rfl | rfl | rfl
  · rfl
  · obtain ⟨_, _, h⟩ := spl_stays hx (.inl rfl) p
    rw [hp] at h
    have := (h.det hb).2.2
    omega
  · obtain ⟨_, _, h⟩ := spl_stays hx (.inr rfl) p
    rw [hp] at h
    have := (h.det hb).2.2
    omega
  · rfl

/-- A slice of ints: what it holds. -/
structure IS (w : World) (A : Option Addr) (n : Nat) (zs : List Int) : Prop where
  len : zs.length = n
  max : n ≤ 1048576
  at_ : ∀ k, k < n → ∃ b o, A = some ⟨b, o, none⟩ ∧ w.cell? ⟨b, o + k, none⟩ = some (.int .i64 (zs.getD k 0)) ∧ -9223372036854775808 ≤ zs.getD k 0 ∧ zs.getD k 0 ≤ 9223372036854775807
theorem IS.below {w w' : World} {A : Option Addr} {n : Nat} {zs : List Int} (h : IS w A n zs) (hb : Below w.heap.size w w') : IS w' A n zs :=
  ⟨h.len, h.max, fun k hk => let ⟨b, o, hA, hc, hz⟩ := h.at_ k hk; ⟨b, o, hA, (hb.cell (p := ⟨b, o + k, none⟩) (World.block_lt_of_cell? w _ hc)).trans hc, hz⟩⟩
end Go.Proofs.Ytgcglnohpmpnkaa
