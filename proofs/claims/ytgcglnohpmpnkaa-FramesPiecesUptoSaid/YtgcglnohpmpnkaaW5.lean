/- Contracts: the frames of loads, in the program and in the document's answer. -/
import Derived.Test.YtgcglnohpmpnkaaW4
namespace Go.Proofs.Ytgcglnohpmpnkaa
open Go.RowKit

theorem four_at (x : Int) (n : BitVec 32) (hx : x = n.toNat) (w : World) :
    Calls Try.prog 30 #[.int .u32 x] w fun e w' => e = .returned (.slice (some ⟨w.heap.size, 0, none⟩) 4 4) ∧ w' = w.alloc (.cells (bl (word4 n)).toArray 5) := by
  subst hx; exact four_any n w
theorem word_at (x : Int) (n : BitVec 32) (hx : x = n.toNat) (w : World) :
    Calls Try.prog 31 #[.int .u32 x] w fun e w' => e = .returned (.slice (some ⟨w.heap.size, 0, none⟩) 4 4) ∧ w' = w.alloc (.cells (bl (word4 n)).toArray 5) := by
  subst hx; exact word_any n w
/-- A new row that is just these bytes. -/
theorem own_new (w : World) (base : Nat) (l : List UInt8) (hb : base ≤ w.heap.size) (hl : l.length ≤ maxLen) :
    (w.alloc (.cells (bl l).toArray 5)).ownsRow base 5 1 (.slice (some ⟨w.heap.size, 0, none⟩) l.length l.length) l.length (bl l) :=
  ⟨by rw [bl_length, Nat.mul_one], .inr ⟨w.heap.size, l.length, (bl l).toArray, rfl, hb, heap_alloc_new w _, Nat.le_refl _, hl, by simp [bl_length], by rw [Nat.mul_one]; exact List.take_of_length_le (by simp [bl])⟩⟩
theorem bs_new (w : World) (l : List UInt8) (hl : l.length ≤ 140737488355328) : BS (w.alloc (.cells (bl l).toArray 5)) (some ⟨w.heap.size, 0, none⟩) l.length l.length l := by
  obtain ⟨A, c, hv, hb⟩ := own_bs (own_new w 0 l (Nat.zero_le _) (by unfold maxLen; omega)) hl
  injection hv with hA _ hc; subst hA hc; exact hb

theorem own_mono {w : World} {base base' : Nat} {e : TypeId} {v : Value} {n : Nat} {xs : List Value} (h : w.ownsRow base e 1 v n xs) (hb : base' ≤ base) : w.ownsRow base' e 1 v n xs := by
  refine ⟨h.1, ?_⟩
  rcases h.2 with h2 | ⟨g, cap, cur, hv, hg, r⟩
  · exact .inl h2
  · exact .inr ⟨g, cap, cur, hv, Nat.le_trans hb hg, r⟩
theorem bb_new3 (w : World) {A0 A1 A2 : Option Addr} {n0 n1 n2 c0 c1 c2 : Nat} {l0 l1 l2 : List UInt8} (h0 : BS w A0 n0 c0 l0) (h1 : BS w A1 n1 c1 l1) (h2 : BS w A2 n2 c2 l2) :
    BB (w.alloc (.cells #[.slice A0 n0 c0, .slice A1 n1 c1, .slice A2 n2 c2] 22)) (some ⟨w.heap.size, 0, none⟩) 3 3 [l0, l1, l2] := by
  refine ⟨rfl, Nat.le_refl _, by decide, (fun h => by cases h), fun k hk => ⟨w.heap.size, 0, rfl, ?_⟩⟩
  rw [cell_of_row _ w.heap.size _ _ _ _ (heap_alloc_new w _)]
  match k, hk with
  | 0, _ => exact ⟨A0, n0, c0, rfl, h0.alloc _⟩
  | 1, _ => exact ⟨A1, n1, c1, rfl, h1.alloc _⟩
  | 2, _ => exact ⟨A2, n2, c2, rfl, h2.alloc _⟩

set_option maxHeartbeats 400000 in
theorem put_yes (A : Option Addr) (n cap : Nat) (l : List UInt8) (w : World) (h : BS w A n cap l) (hn : n ≤ 16777216) :
    Calls Try.prog 14 #[.slice A n cap] w fun e w' => ∃ v, e = .returned (.tuple #[v, .int .i64 0]) ∧ w'.ownsRow w.heap.size 5 1 v (n + 8) (bl (frame l)) ∧ Below w.heap.size w w' := by
  have hl := Lib.hid h.rb.1
  go_enter Try.func14, Try.ntmps14
  go_wp2_with fail
  refine (four_at _ (BitVec.ofNat 32 n) (by rw [BitVec.toNat_ofNat]; omega) _).mono ?_
  rintro e w1 ⟨rfl, rfl⟩
  go_wp2_with (go_at_call 12; refine (sum_any A n cap l _ (h.alloc _).rb).mono ?_; rintro e w1 ⟨rfl, rfl⟩)
  refine (four_any (crc l) _).mono ?_
  rintro e w1 ⟨rfl, rfl⟩
  go_wp2_with fail
  have hw0 : (word4 (BitVec.ofNat 32 n)).length = 4 := rfl
  have hw1 : (word4 (crc l)).length = 4 := rfl
  have b0 := (bs_new w (word4 (BitVec.ofNat 32 n)) (by omega)).alloc (.cells (bl (word4 (crc l))).toArray 5)
  have b1 := bs_new (w.alloc (.cells (bl (word4 (BitVec.ofNat 32 n))).toArray 5)) (word4 (crc l)) (by omega)
  have b2 := (h.alloc (.cells (bl (word4 (BitVec.ofNat 32 n))).toArray 5)).alloc (.cells (bl (word4 (crc l))).toArray 5)
  rw [World.size_alloc] at b1
  have bb := bb_new3 _ b0 b1 b2
  rw [World.size_alloc, World.size_alloc] at bb
  have hsum : lenSum [word4 (BitVec.ofNat 32 n), word4 (crc l), l] = n + 8 := by simp only [lenSum, hw0, hw1, hl.out]; omega
  refine (concat_any _ _ _ _ _ bb (by omega)).mono ?_
  rintro e w1 ⟨v, rfl, hown, hbel⟩
  rw [hsum] at hown
  clear b0 b1 b2 bb hsum hw0 hw1
  go_wp2_with fail
  go_ret2
  refine ⟨v, rfl, ?_, (((Below.refl w.heap.size w).alloc (Nat.le_refl _) _).alloc (by simp) _ |>.alloc (by simp; omega) _).trans (hbel.mono (by simp; omega))⟩
  have := own_mono hown (base' := w.heap.size) (by simp; omega)
  rw [show frame l = [word4 (BitVec.ofNat 32 n), word4 (crc l), l].flatten from by simp [frame, hl.out]]
  exact this
set_option maxHeartbeats 400000 in
theorem put_no (A : Option Addr) (n cap : Nat) (w : World) (hn : 16777216 < n) :
    Calls Try.prog 14 #[.slice A n cap] w fun e w' => e = .returned (.tuple #[.slice none 0 0, .int .i64 3]) ∧ w = w' := by
  go_enter Try.func14, Try.ntmps14
  go_wp2_with fail
  go_ret2
  exact ⟨rfl, rfl⟩
set_option maxHeartbeats 400000 in
theorem putref_no (A : Option Addr) (n cap : Nat) (w : World) (hn : 16777216 < n) :
    Calls Try.prog 15 #[.slice A n cap] w fun e w' => e = .returned (.tuple #[.slice none 0 0, .int .i64 3]) ∧ w = w' := by
  go_enter Try.func15, Try.ntmps15
  go_wp2_with fail
  go_ret2
  exact ⟨rfl, rfl⟩
set_option maxHeartbeats 400000 in
theorem putref_yes (A : Option Addr) (n cap : Nat) (l : List UInt8) (w : World) (h : BS w A n cap l) (hn : n ≤ 16777216) :
    Calls Try.prog 15 #[.slice A n cap] w fun e w' => ∃ v, e = .returned (.tuple #[v, .int .i64 0]) ∧ w'.ownsRow w.heap.size 5 1 v (n + 8) (bl (frame l)) ∧ Below w.heap.size w w' := by
  have hl := Lib.hid h.rb.1
  go_enter Try.func15, Try.ntmps15
  go_wp2_with fail
  refine (word_at _ (BitVec.ofNat 32 n) (by rw [BitVec.toNat_ofNat]; omega) _).mono ?_
  rintro e w1 ⟨rfl, rfl⟩
  go_wp2_with (go_at_call 16; refine (sumref_any A n cap l _ (h.alloc _).rb).mono ?_; rintro e w1 ⟨rfl, rfl⟩)
  refine (word_any (crc l) _).mono ?_
  rintro e w1 ⟨rfl, rfl⟩
  have hw0 : (word4 (BitVec.ofNat 32 n)).length = 4 := rfl
  have hw1 : (word4 (crc l)).length = 4 := rfl
  have o0 := (own_new w w.heap.size (word4 (BitVec.ofNat 32 n)) (Nat.le_refl _) (by rw [hw0]; decide)).alloc (.cells (bl (word4 (crc l))).toArray 5)
  have b1 := bs_new (w.alloc (.cells (bl (word4 (BitVec.ofNat 32 n))).toArray 5)) (word4 (crc l)) (by omega)
  have b2 := (h.alloc (.cells (bl (word4 (BitVec.ofNat 32 n))).toArray 5)).alloc (.cells (bl (word4 (crc l))).toArray 5)
  rw [World.size_alloc] at b1
  rw [hw0] at o0
  rw [hw1] at b1
  clear hw0 hw1
  have hb0 : Below w.heap.size w ((w.alloc (.cells (bl (word4 (BitVec.ofNat 32 n))).toArray 5)).alloc (.cells (bl (word4 (crc l))).toArray 5)) := ((Below.refl w.heap.size w).alloc (Nat.le_refl _) _).alloc (by simp) _
  go_wp2_with (first
    | (at_builtin; refine wpList_app sB rfl (.tmp 11) (.tmp 14) rfl w.heap.size _ 4 _ rfl o0 _ 4 4 (bl (word4 (crc l))) rfl b1.rb.rd (fun _ => b1.nil) (bl_one _) (by decide) (by omega) (by simp; omega) ?_; intro v1 w1 hown1 hg1 hat1; have hbb := below_app hb0 hg1 o0 (Nat.le_refl _) hb0.size)
    | (at_builtin; refine wpList_app sB rfl (.tmp 16) (.tmp 17) rfl w.heap.size _ _ _ rfl hown1 A n cap (bl l) rfl (h.below hbb).rb.rd (fun _ => h.nil) (bl_one _) (by unfold maxLen; omega) (by omega) hbb.size ?_; intro v2 w2 hown2 hg2 hat2))
  go_ret2
  refine ⟨_, rfl, ?_, below_app hbb hg2 hown1 (Nat.le_refl _) hbb.size⟩
  rw [show n + 8 = 4 + 4 + n from by omega, show bl (frame l) = bl (word4 (BitVec.ofNat 32 n)) ++ bl (word4 (crc l)) ++ bl l from by simp [frame, hl.out, bl_append]]
  exact hown2
end Go.Proofs.Ytgcglnohpmpnkaa
