/- Contracts: the first frame of any bytes, told by its number. -/
import Derived.Test.YtgcglnohpmpnkaaW9
import Derived.Test.YtgcglnohpmpnkaaM3
namespace Go.Proofs.Ytgcglnohpmpnkaa
open Go.RowKit

theorem next_good (A : Option Addr) (n cap : Nat) (l : List UInt8) (w : World) (h : BS w A n cap l) (he : nextE l = 0) :
    Calls Try.prog 19 #[.slice A n cap] w fun e w' => ∃ v, e = .returned (.tuple #[v, .int .i64 (num4 l + 8), .int .i64 0]) ∧ w'.ownsRow w.heap.size 5 1 v (num4 l) (bl (nextL l)) ∧ Below w.heap.size w w' := by
  obtain ⟨h1, h2, h3, h4⟩ := nextE_ok he
  have hl := h.rb.1
  exact next_ok A n cap (num4 l) l w h (by omega) rfl h2 (by omega) h4
theorem nextref_good (A : Option Addr) (n cap : Nat) (l : List UInt8) (w : World) (h : BS w A n cap l) (he : nextE l = 0) :
    Calls Try.prog 20 #[.slice A n cap] w fun e w' => ∃ v, e = .returned (.tuple #[v, .int .i64 (num4 l + 8), .int .i64 0]) ∧ w'.ownsRow w.heap.size 5 1 v (num4 l) (bl (nextL l)) ∧ Below w.heap.size w w' := by
  obtain ⟨h1, h2, h3, h4⟩ := nextE_ok he
  have hl := h.rb.1
  exact nextref_ok A n cap (num4 l) l w h (by omega) rfl h2 (by omega) h4
theorem next_fail (A : Option Addr) (n cap : Nat) (l : List UInt8) (w : World) (h : BS w A n cap l) (he : nextE l ≠ 0) :
    Calls Try.prog 19 #[.slice A n cap] w fun e w' => e = .returned (.tuple #[.slice none 0 0, .int .i64 0, .int .i64 (nextE l)]) ∧ Below w.heap.size w w' := by
  have hl := h.rb.1
  unfold nextE at he ⊢
  by_cases c1 : l.length < 4
  · rw [if_pos c1]; exact next_short A n cap w (by omega)
  rw [if_neg c1] at he ⊢
  by_cases c2 : 16777216 < num4 l
  · rw [if_pos c2]; exact next_big A n cap _ l w h (by omega) rfl c2
  rw [if_neg c2] at he ⊢
  by_cases c3 : l.length < num4 l + 8
  · rw [if_pos c3]; exact next_torn A n cap _ l w h (by omega) rfl (by omega) (by omega)
  rw [if_neg c3] at he ⊢
  by_cases c4 : num4 (l.drop 4) = (crc ((l.drop 8).take (num4 l))).toNat
  · rw [if_pos c4] at he; exact absurd rfl he
  rw [if_neg c4]; exact next_sum A n cap _ l w h (by omega) rfl (by omega) (by omega) c4
theorem nextref_fail (A : Option Addr) (n cap : Nat) (l : List UInt8) (w : World) (h : BS w A n cap l) (he : nextE l ≠ 0) :
    Calls Try.prog 20 #[.slice A n cap] w fun e w' => e = .returned (.tuple #[.slice none 0 0, .int .i64 0, .int .i64 (nextE l)]) ∧ Below w.heap.size w w' := by
  have hl := h.rb.1
  unfold nextE at he ⊢
  by_cases c1 : l.length < 4
  · rw [if_pos c1]; exact nextref_short A n cap w (by omega)
  rw [if_neg c1] at he ⊢
  by_cases c2 : 16777216 < num4 l
  · rw [if_pos c2]; exact nextref_big A n cap _ l w h (by omega) rfl c2
  rw [if_neg c2] at he ⊢
  by_cases c3 : l.length < num4 l + 8
  · rw [if_pos c3]; exact nextref_torn A n cap _ l w h (by omega) rfl (by omega) (by omega)
  rw [if_neg c3] at he ⊢
  by_cases c4 : num4 (l.drop 4) = (crc ((l.drop 8).take (num4 l))).toNat
  · rw [if_pos c4] at he; exact absurd rfl he
  rw [if_neg c4]; exact nextref_sum A n cap _ l w h (by omega) rfl (by omega) (by omega) c4
theorem nextL_length {l : List UInt8} (h : nextE l = 0) : (nextL l).length = num4 l := by
  have := nextE_ok h
  rw [nextL, List.length_take, List.length_drop]
  omega
end Go.Proofs.Ytgcglnohpmpnkaa
