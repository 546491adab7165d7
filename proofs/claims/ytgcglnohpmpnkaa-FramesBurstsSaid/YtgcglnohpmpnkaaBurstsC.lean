/- The walk of FramesBursts, part C. -/
import Derived.Test.YtgcglnohpmpnkaaBurstsL
namespace Go.Proofs.Ytgcglnohpmpnkaa
open Go.RowKit

set_option maxHeartbeats 2000000 in
theorem bursts_empty_zero (A : Option Addr) (n cap : Nat) (l : List UInt8) (x : Int) (m s : Nat) (w : World) (h : BS w A n cap l) (hn : n ≤ 16777216) (h0 : n ≤ 0) (hs0 : s = 0) :
    Calls Try.prog 5 #[.slice A n cap, .int .i64 x, .int .u32 m, .int .u32 s] w fun e w' => e = .returned (.bool true) ∧ Below w.heap.size w w' := by
  have hl : l.length = n := h.rb.1
  have HL := Lib.hid hl
  clear hl
  have hd : decide ((0 : Int) < n) = false := by simp; omega
  subst hs0
  go_enter Try.func5, Try.ntmps5
  go_wp2_with (go_at_call 11; refine (live_any _).mono ?_; rintro e w1 ⟨rfl, b1⟩)
  refine (put_yes A n cap l w1 (h.below b1) hn).mono ?_
  rintro e w2 ⟨v2, rfl, own2, b2⟩
  have Z2 := Lib.hid own2.lt
  obtain ⟨A2, c2, rfl, m2⟩ := own_bs own2 (by omega)
  have s01 := b1.size
  have s12 := b2.size
  have bb := b1.trans (b2.mono s01)
  go_wp2_with (go_at_call 17; refine (no_any _ _).mono ?_; rintro e w4 ⟨rfl, rfl⟩)
  go_ret
  exact ⟨rfl, bb⟩

set_option maxHeartbeats 2000000 in
theorem bursts_empty_more (A : Option Addr) (n cap : Nat) (l : List UInt8) (x : Int) (m s : Nat) (w : World) (h : BS w A n cap l) (hn : n ≤ 16777216) (h0 : n ≤ 0) (hs : s < 4294967296) (hs0 : s ≠ 0) :
    Calls Try.prog 5 #[.slice A n cap, .int .i64 x, .int .u32 m, .int .u32 s] w fun e w' => e = .returned (.bool true) ∧ Below w.heap.size w w' := by
  have hl : l.length = n := h.rb.1
  have HL := Lib.hid hl
  clear hl
  have hd : decide ((0 : Int) < n) = false := by simp; omega
  have hs1 : ((s : Int) == 0) = false := by rw [beq_eq_false_iff_ne]; omega
  go_enter Try.func5, Try.ntmps5
  go_wp2_with (go_at_call 11; refine (live_any _).mono ?_; rintro e w1 ⟨rfl, b1⟩)
  refine (put_yes A n cap l w1 (h.below b1) hn).mono ?_
  rintro e w2 ⟨v2, rfl, own2, b2⟩
  have Z2 := Lib.hid own2.lt
  obtain ⟨A2, c2, rfl, m2⟩ := own_bs own2 (by omega)
  have s01 := b1.size
  have s12 := b2.size
  have mm2 := m2
  have bb := b1.trans (b2.mono s01)
  clear own2 b1 b2 m2
  go_wp2_with (first
    | (go_at_call 17; refine (no_any _ _).mono ?_; rintro e w4 ⟨rfl, rfl⟩)
    | (go_at_call 13; refine (own_any A2 (n + 8) c2 (frame l) _ mm2).mono ?_; rintro e w8 ⟨v8, rfl, own8, b8⟩; obtain ⟨A8, c8, rfl, m8⟩ := own_bs own8 (by omega)))
  have hb8 := bb.trans (b8.mono bb.size)
  have s5 := bb.size
  clear b8 bb mm2
  go_loopw [19] (fun i wr => ∃ k : Nat, k ≤ 4 ∧ i = .int .i64 k ∧ wr.ownsRow w.heap.size 5 1 (.slice A8 (n + 8) c8) (n + 8) (bl (sums s l k)) ∧ Below w.heap.size w wr) (fun i _ => 4 - (intOf i).toNat)
  case atStart => exact ⟨0, by omega, rfl, own_mono own8 s5, hb8⟩
  case round =>
    obtain ⟨k, hk, rfl, r8, hbel⟩ := hrel
    clear own8 m8 hb8
    by_cases hlt : k < 4
    · obtain ⟨g, rfl, hg1, hg2⟩ := own_addr r8 (by omega)
      have hc := own_cell r8 (4 + k) (by omega)
      have hf := r8.frozenAt (4 + k)
      have hi : 4 + k < n + 8 := by omega
      have HS := Lib.hid (show sums s l (k + 1) = (sums s l k).set (4 + k) ((sums s l k).getD (4 + k) 0 ^^^ UInt8.ofNat (s / 2 ^ (8 * k))) from rfl)
      obtain ⟨S1, S2⟩ := set_bytes r8 (4 + k) _ _ (sum_val ((sums s l k).getD (4 + k) 0) s k)
      have S5 := hbel.setCell (p := ⟨g, 4 + k, none⟩) hg1 (.int .u8 (bits .xor .u8 (((sums s l k).getD (4 + k) 0).toNat : Int) ((s : Int) / 2 ^ (8 * k) % 256)))
      generalize (sums s l k).getD (4 + k) 0 = u at *
      have H1 := Lib.hid S1
      have H5 := Lib.hid S5
      clear S1 S2 S5 r8 hbel
      go_wp2
      go_roundw
      case rel => exact ⟨k + 1, by omega, by go_num, by rw [HS.out]; exact H1.out, H5.out⟩
      case measure => simp [intOf]; omega
    · obtain rfl : k = 4 := by omega
      obtain ⟨A8', c8', e8, m8⟩ := own_bs r8 (by omega)
      injection e8 with eA _ ec
      subst eA ec
      have hd8 : ((sums s l 4).drop 8).take n = l := by rw [sums_drop8]; exact List.take_of_length_le (by have := HL.out; omega)
      go_wp2_with (first
        | (go_at_call 19; refine (next_sum A8 (n + 8) c8 n (sums s l 4) _ m8 (by omega) (by rw [sums_num _ _ (by have := HL.out; omega)]; exact HL.out) hn (by omega) (by rw [hd8]; exact sums_ne s l hs hs0)).mono ?_; rintro e w9 ⟨rfl, b9⟩)
        | (go_at_call 17; refine (no_any _ _).mono ?_; rintro e w9' ⟨rfl, rfl⟩))
      go_ret
      exact ⟨rfl, hbel.trans (b9.mono hbel.size)⟩

set_option maxHeartbeats 2000000 in
theorem bursts_bare_zero (A : Option Addr) (n cap : Nat) (l : List UInt8) (x : Int) (m s : Nat) (w : World) (h : BS w A n cap l) (hn : n ≤ 16777216) (h0 : 0 < n) (hm0 : m = 0) (hs0 : s = 0) :
    Calls Try.prog 5 #[.slice A n cap, .int .i64 x, .int .u32 m, .int .u32 s] w fun e w' => e = .returned (.bool true) ∧ Below w.heap.size w w' := by
  have hl : l.length = n := h.rb.1
  have HL := Lib.hid hl
  clear hl
  subst hm0
  subst hs0
  go_enter Try.func5, Try.ntmps5
  go_wp2_with (go_at_call 11; refine (live_any _).mono ?_; rintro e w1 ⟨rfl, b1⟩)
  refine (put_yes A n cap l w1 (h.below b1) hn).mono ?_
  rintro e w2 ⟨v2, rfl, own2, b2⟩
  have Z2 := Lib.hid own2.lt
  obtain ⟨A2, c2, rfl, m2⟩ := own_bs own2 (by omega)
  have s01 := b1.size
  have s12 := b2.size
  have bb := b1.trans (b2.mono s01)
  go_wp2_with (go_at_call 17; refine (no_any _ _).mono ?_; rintro e w4 ⟨rfl, rfl⟩)
  go_ret
  exact ⟨rfl, bb⟩

set_option maxHeartbeats 2000000 in
theorem bursts_bare_more (A : Option Addr) (n cap : Nat) (l : List UInt8) (x : Int) (m s : Nat) (w : World) (h : BS w A n cap l) (hn : n ≤ 16777216) (h0 : 0 < n) (hm0 : m = 0) (hs : s < 4294967296) (hs0 : s ≠ 0) :
    Calls Try.prog 5 #[.slice A n cap, .int .i64 x, .int .u32 m, .int .u32 s] w fun e w' => e = .returned (.bool true) ∧ Below w.heap.size w w' := by
  have hl : l.length = n := h.rb.1
  have HL := Lib.hid hl
  clear hl
  subst hm0
  have hs1 : ((s : Int) == 0) = false := by rw [beq_eq_false_iff_ne]; omega
  go_enter Try.func5, Try.ntmps5
  go_wp2_with (go_at_call 11; refine (live_any _).mono ?_; rintro e w1 ⟨rfl, b1⟩)
  refine (put_yes A n cap l w1 (h.below b1) hn).mono ?_
  rintro e w2 ⟨v2, rfl, own2, b2⟩
  have Z2 := Lib.hid own2.lt
  obtain ⟨A2, c2, rfl, m2⟩ := own_bs own2 (by omega)
  have s01 := b1.size
  have s12 := b2.size
  have mm2 := m2
  have bb := b1.trans (b2.mono s01)
  clear own2 b1 b2 m2
  go_wp2_with (first
    | (go_at_call 17; refine (no_any _ _).mono ?_; rintro e w4 ⟨rfl, rfl⟩)
    | (go_at_call 13; refine (own_any A2 (n + 8) c2 (frame l) _ mm2).mono ?_; rintro e w8 ⟨v8, rfl, own8, b8⟩; obtain ⟨A8, c8, rfl, m8⟩ := own_bs own8 (by omega)))
  have hb8 := bb.trans (b8.mono bb.size)
  have s5 := bb.size
  clear b8 bb mm2
  go_loopw [19] (fun i wr => ∃ k : Nat, k ≤ 4 ∧ i = .int .i64 k ∧ wr.ownsRow w.heap.size 5 1 (.slice A8 (n + 8) c8) (n + 8) (bl (sums s l k)) ∧ Below w.heap.size w wr) (fun i _ => 4 - (intOf i).toNat)
  case atStart => exact ⟨0, by omega, rfl, own_mono own8 s5, hb8⟩
  case round =>
    obtain ⟨k, hk, rfl, r8, hbel⟩ := hrel
    clear own8 m8 hb8
    by_cases hlt : k < 4
    · obtain ⟨g, rfl, hg1, hg2⟩ := own_addr r8 (by omega)
      have hc := own_cell r8 (4 + k) (by omega)
      have hf := r8.frozenAt (4 + k)
      have hi : 4 + k < n + 8 := by omega
      have HS := Lib.hid (show sums s l (k + 1) = (sums s l k).set (4 + k) ((sums s l k).getD (4 + k) 0 ^^^ UInt8.ofNat (s / 2 ^ (8 * k))) from rfl)
      obtain ⟨S1, S2⟩ := set_bytes r8 (4 + k) _ _ (sum_val ((sums s l k).getD (4 + k) 0) s k)
      have S5 := hbel.setCell (p := ⟨g, 4 + k, none⟩) hg1 (.int .u8 (bits .xor .u8 (((sums s l k).getD (4 + k) 0).toNat : Int) ((s : Int) / 2 ^ (8 * k) % 256)))
      generalize (sums s l k).getD (4 + k) 0 = u at *
      have H1 := Lib.hid S1
      have H5 := Lib.hid S5
      clear S1 S2 S5 r8 hbel
      go_wp2
      go_roundw
      case rel => exact ⟨k + 1, by omega, by go_num, by rw [HS.out]; exact H1.out, H5.out⟩
      case measure => simp [intOf]; omega
    · obtain rfl : k = 4 := by omega
      obtain ⟨A8', c8', e8, m8⟩ := own_bs r8 (by omega)
      injection e8 with eA _ ec
      subst eA ec
      have hd8 : ((sums s l 4).drop 8).take n = l := by rw [sums_drop8]; exact List.take_of_length_le (by have := HL.out; omega)
      go_wp2_with (first
        | (go_at_call 19; refine (next_sum A8 (n + 8) c8 n (sums s l 4) _ m8 (by omega) (by rw [sums_num _ _ (by have := HL.out; omega)]; exact HL.out) hn (by omega) (by rw [hd8]; exact sums_ne s l hs hs0)).mono ?_; rintro e w9 ⟨rfl, b9⟩)
        | (go_at_call 17; refine (no_any _ _).mono ?_; rintro e w9' ⟨rfl, rfl⟩))
      go_ret
      exact ⟨rfl, hbel.trans (b9.mono hbel.size)⟩

set_option maxHeartbeats 400000 in
theorem bursts_big (A : Option Addr) (n cap : Nat) (x : Int) (m s : Nat) (w : World) (hn : 16777216 < n) :
    Calls Try.prog 5 #[.slice A n cap, .int .i64 x, .int .u32 m, .int .u32 s] w fun e w' => e = .returned (.bool true) ∧ Below w.heap.size w w' := by
  have hd : decide ((16777216 : Int) < n) = true := by simp; omega
  go_enter Try.func5, Try.ntmps5
  go_wp2_with (first
    | (go_at_call 11; refine (live_any _).mono ?_; rintro e w1 ⟨rfl, b1⟩)
    | (go_at_call 14; refine (put_no A n cap _ hn).mono ?_; rintro e w4 ⟨rfl, rfl⟩)
    | (go_at_call 17; refine (no_any _ _).mono ?_; rintro e w4 ⟨rfl, rfl⟩))
  go_ret
  exact ⟨rfl, b1⟩

end Go.Proofs.Ytgcglnohpmpnkaa
