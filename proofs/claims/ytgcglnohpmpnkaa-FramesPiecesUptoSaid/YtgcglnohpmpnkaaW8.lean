/- Contract: the chapter's first examples hold of the program. -/
import Derived.Test.YtgcglnohpmpnkaaW7
import Derived.Lib.SlBytesConst
namespace Go.Proofs.Ytgcglnohpmpnkaa
open Go.RowKit

theorem crc_digits : (crc [49, 50, 51, 52, 53, 54, 55, 56, 57]).toNat = 3421780262 := by decide +kernel
theorem frame_one : frame [1] = [0, 0, 0, 1, 165, 5, 223, 27, 1] := by decide +kernel

theorem bs_mark (w : World) (l : List UInt8) (fr : Nat × Nat) (hl : l.length ≤ 140737488355328) : BS (w.alloc (.cells (bl l).toArray 5 fr)) (some ⟨w.heap.size, 0, none⟩) l.length l.length l := by
  refine ⟨RB.of_rd ⟨bl_length l, fun _ => ⟨w.heap.size, 0, rfl, fun k u hu => ?_⟩⟩ hl, Nat.le_refl _, by unfold maxLen; omega, fun h => by cases h⟩
  rw [Nat.zero_add, cell_of_row _ w.heap.size k _ _ _ (heap_alloc_new w _)]
  simpa using hu

set_option maxHeartbeats 1000000 in
theorem live_any (w : World) : Calls Try.prog 11 #[] w fun e w' => e = .returned (.bool true) ∧ Below w.heap.size w w' := by
  have hcv := fun (W : World) C n c => Lib.run_convert_bytes_const (P := Try.prog) W 22 5 C n c Try.underlying22 Try.underlying5
  go_enter Try.func11, Try.ntmps11
  go_wp2_with fail
  have b1 := bs_new w [1] (by decide)
  refine (put_yes _ 1 1 [1] _ b1 (by decide)).mono ?_
  rintro e w1 ⟨v1, rfl, hown1, hb1⟩
  rw [frame_one] at hown1
  obtain ⟨A1, c1, rfl, hv1⟩ := own_bs hown1 (by decide)
  have hb1' := ((Below.refl w.heap.size w).alloc (Nat.le_refl _) (.cells (bl [1]).toArray 5)).trans (hb1.mono (by simp))
  go_wp2_with fail
  refine (next_ok A1 9 c1 1 _ w1 hv1 (by decide) (by decide +kernel) (by decide) (by decide) (by decide +kernel)).mono ?_
  rintro e w2 ⟨v2, rfl, hown2, hb2⟩
  obtain ⟨A2, c2, rfl, hv2⟩ := own_bs hown2 (by decide)
  have hb2' := hb1'.trans (hb2.mono (by have := hb1'.size; exact this))
  have hv1' := hv1.below hb2
  clear hown1 hown2 hb1 hb2 hb1' b1 hv1
  have d3 := bs_mark w2 [49, 50, 51, 52, 53, 54, 55, 56, 57] (9, 10) (by decide)
  have s1 := sum_any _ 9 9 _ _ d3.rb
  rw [crc_digits] at s1
  go_wp2_with fail
  refine s1.mono ?_
  clear s1 d3
  rintro e w3 ⟨rfl, rfl⟩
  go_wp2_with (go_at_call 17; refine (no_any _ _).mono ?_; rintro e w3 ⟨rfl, rfl⟩)
  have d4 := bs_new (w2.alloc (.cells (bl [49, 50, 51, 52, 53, 54, 55, 56, 57]).toArray 5 (9, 10))) [0, 0, 0, 1, 165, 5, 223, 27, 1] (by decide)
  rw [World.size_alloc] at d4
  refine (same_yes A1 _ 9 c1 9 _ _ ((hv1'.alloc _).alloc _).rb d4.rb).mono ?_
  clear d4
  rintro e w3 ⟨rfl, k3, rfl⟩
  go_wp2_with fail
  have d5 := bs_new (((w2.alloc (.cells (bl [49, 50, 51, 52, 53, 54, 55, 56, 57]).toArray 5 (9, 10))).alloc (.cells (bl [0, 0, 0, 1, 165, 5, 223, 27, 1]).toArray 5)).drewN k3) [1] (by decide)
  rw [show ((((w2.alloc (.cells (bl [49, 50, 51, 52, 53, 54, 55, 56, 57]).toArray 5 (9, 10))).alloc (.cells (bl [0, 0, 0, 1, 165, 5, 223, 27, 1]).toArray 5)).drewN k3).heap.size = w2.heap.size + 1 + 1) from by simp] at d5
  refine (same_yes A2 _ 1 c2 1 _ _ ((((hv2.alloc _).alloc _).drewN k3).alloc _).rb d5.rb).mono ?_
  clear d5
  rintro e w3 ⟨rfl, k4, rfl⟩
  go_wp2_with (go_at_call 17; refine (no_any _ _).mono ?_; rintro e w3 ⟨rfl, rfl⟩)
  go_ret
  exact ⟨rfl, below_drewN ((below_drewN ((hb2'.alloc hb2'.size _).alloc (by have := hb2'.size; simp; omega) _) _).alloc (by have := hb2'.size; simp; omega) _) _⟩
end Go.Proofs.Ytgcglnohpmpnkaa
