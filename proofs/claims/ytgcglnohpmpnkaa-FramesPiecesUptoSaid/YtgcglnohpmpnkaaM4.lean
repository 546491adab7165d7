/- Plain: frames that were put together are told again, whatever stands behind; a frame without its end is torn. -/
import Derived.Test.YtgcglnohpmpnkaaM3
import Derived.Test.YtgcglnohpmpnkaaW14
namespace Go.Proofs.Ytgcglnohpmpnkaa

theorem word4_length (n : BitVec 32) : (word4 n).length = 4 := rfl
theorem num4_take {l : List UInt8} {c : Nat} (h : 4 ≤ c) : num4 (l.take c) = num4 l := by
  unfold num4
  rw [List.getD_eq_getElem?_getD, List.getD_eq_getElem?_getD, List.getD_eq_getElem?_getD, List.getD_eq_getElem?_getD, List.getElem?_take, List.getElem?_take, List.getElem?_take, List.getElem?_take,
    if_pos (by omega), if_pos (by omega), if_pos (by omega), if_pos (by omega)]
  simp only [List.getD_eq_getElem?_getD]
theorem frame_num (l r : List UInt8) (h : l.length ≤ 16777216) : num4 (frame l ++ r) = l.length := by
  rw [frame, List.append_assoc, num4_word]
  simp; omega
theorem frame_sum (l r : List UInt8) : num4 ((frame l ++ r).drop 4) = (crc l).toNat := by
  rw [frame, List.append_assoc, List.append_assoc, List.drop_left' (word4_length _), num4_word]
theorem frame_load (l r : List UInt8) : ((frame l ++ r).drop 8).take l.length = l := by
  rw [frame, List.append_assoc, List.append_assoc, show (8 : Nat) = 4 + 4 from rfl, ← List.drop_drop, List.drop_left' (word4_length _), List.drop_left' (word4_length _), List.take_left]
theorem frame_next (l r : List UInt8) (h : l.length ≤ 16777216) : nextE (frame l ++ r) = 0 ∧ nextL (frame l ++ r) = l := by
  have hn := frame_num l r h
  unfold nextE nextL
  rw [hn, frame_load, frame_sum, List.length_append, frame_length, if_neg (by omega), if_neg (by omega), if_neg (by omega), if_pos rfl]
  exact ⟨rfl, rfl⟩
theorem frame_torn (l : List UInt8) (c : Nat) (h : l.length ≤ 16777216) (hc : c < l.length + 8) : nextE ((frame l).take c) = 41 := by
  unfold nextE
  rw [List.length_take, frame_length]
  by_cases h4 : c < 4
  · rw [if_pos (by omega)]
  · have := frame_num l [] h
    rw [List.append_nil] at this
    rw [if_neg (by omega), num4_take (by omega), this, if_neg (by omega), if_pos (by omega)]

/-- Loads put together, and what stands behind. -/
theorem spl_joined {r : List UInt8} {xs : List (List UInt8)} {a e : Nat} (hr : Spl r xs a e) : ∀ ls : List (List UInt8), (∀ l ∈ ls, l.length ≤ 16777216) → Spl (joined ls ++ r) (ls ++ xs) ((joined ls).length + a) e
  | [], _ => by simpa [joined] using hr
  | l :: ls, h => by
    have hl := h l (by simp)
    have ih := spl_joined hr ls fun x hx => h x (by simp [hx])
    obtain ⟨h1, h2⟩ := frame_next l (joined ls ++ r) hl
    have hn := frame_num l (joined ls ++ r) hl
    have e : joined (l :: ls) ++ r = frame l ++ (joined ls ++ r) := by rw [← List.append_assoc]; rfl
    have hd : (frame l ++ (joined ls ++ r)).drop (l.length + 8) = joined ls ++ r := List.drop_left' (frame_length l)
    have := Spl.more (frame l ++ (joined ls ++ r)) _ _ _ h1 (by rw [hn, hd]; exact ih)
    rw [h2, hn] at this
    rw [e, List.cons_append]
    have ec : (joined (l :: ls)).length + a = l.length + 8 + ((joined ls).length + a) := by
      have : joined (l :: ls) = frame l ++ joined ls := rfl
      rw [this, List.length_append, frame_length]; omega
    rw [ec]
    exact this
theorem spl_joined_all (ls : List (List UInt8)) (h : ∀ l ∈ ls, l.length ≤ 16777216) : Spl (joined ls) ls (joined ls).length 0 := by
  have := spl_joined .nil ls h
  simpa using this
theorem mem_le_sum {ls : List (List UInt8)} {l : List UInt8} (h : l ∈ ls) : l.length ≤ lenSum ls := by
  induction ls with
  | nil => cases h
  | cons x ls ih =>
    simp only [lenSum]
    rcases List.mem_cons.1 h with rfl | h
    · omega
    · have := ih h; omega

end Go.Proofs.Ytgcglnohpmpnkaa
