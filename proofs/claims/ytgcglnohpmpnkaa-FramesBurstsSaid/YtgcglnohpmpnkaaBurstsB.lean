/- The walk of FramesBursts, part B. -/
import Derived.Test.YtgcglnohpmpnkaaBurstsL
namespace Go.Proofs.Ytgcglnohpmpnkaa
open Go.RowKit

set_option maxHeartbeats 2000000 in
theorem bursts_pos_zero (A : Option Addr) (n cap : Nat) (l : List UInt8) (x : Int) (m s : Nat) (w : World) (h : BS w A n cap l) (hn : n ≤ 16777216) (a : Nat) (ha : a < 8 * n) (h0 : 0 < n) (hm : m < 4294967296) (hm0 : ((m : Int) != 0) = true) (hx1 : -9223372036854775808 ≤ x) (hx2 : x ≤ 9223372036854775807) (hneg : 0 ≤ x) (hq : x % (8 * (n : Int)) = a) (hs0 : s = 0) :
    Calls Try.prog 5 #[.slice A n cap, .int .i64 x, .int .u32 m, .int .u32 s] w fun e w' => e = .returned (.bool true) ∧ Below w.heap.size w w' := by
  have hl : l.length = n := h.rb.1
  have HL := Lib.hid hl
  clear hl
  subst hs0
  go_enter Try.func5, Try.ntmps5
  go_wp2_with (go_at_call 11; refine (live_any _).mono ?_; rintro e w1 ⟨rfl, b1⟩)
  refine (put_yes A n cap l w1 (h.below b1) hn).mono ?_
  rintro e w2 ⟨v2, rfl, own2, b2⟩
  have Z2 := Lib.hid own2.lt
  obtain ⟨A2, c2, rfl, m2⟩ := own_bs own2 (by omega)
  have s01 := b1.size
  have s12 := b2.size
  go_wp2_with (first
    | (go_at_call 17; refine (no_any _ _).mono ?_; rintro e w4 ⟨rfl, rfl⟩)
    | (go_at_call 13; refine (own_any A2 (n + 8) c2 (frame l) _ m2).mono ?_; rintro e w3 ⟨v3, rfl, own3, b3⟩; obtain ⟨A3, c3, rfl, m3⟩ := own_bs own3 (by omega)))
  try rw [hq]
  have HQ := Lib.hid hq
  have o2 := own_below own2 b3 (Nat.le_refl _)
  have hb3 := (b1.trans (b2.mono s01)).trans (b3.mono (Nat.le_trans s01 s12))
  have hst : frame l = head8 n l ++ flips m a l 0 := by rw [frame_head, HL.out]; rfl
  rw [hst] at own3
  clear hq own2 b1 b2 b3 m2 m3 hst
  go_loopw [13, 14] (fun t i wr => ∃ k : Nat, k ≤ 32 ∧ i = .int .i64 k ∧ t = .bool (turned m a n k) ∧ wr.ownsRow w2.heap.size 5 1 (.slice A3 (n + 8) c3) (n + 8) (bl (head8 n l ++ flips m a l k)) ∧
      wr.ownsRow w1.heap.size 5 1 (.slice A2 (n + 8) c2) (n + 8) (bl (frame l)) ∧ Below w.heap.size w wr) (fun _ i _ => 32 - (intOf i).toNat)
  case atStart => exact ⟨0, by omega, rfl, rfl, own3, o2, hb3⟩
  case round =>
    obtain ⟨k, hk, rfl, rfl, r3, r2, hbel⟩ := hrel
    clear own3 o2 hb3
    by_cases hlt : k < 32
    · have hb := mask_bit m k hm
      cases hs1 : m.testBit k with
      | false =>
        rw [hs1] at hb
        have hb' : (bits .and .u32 ((m : Int) / 2 ^ k) 1 == 1) = false := by rw [hb]; rfl
        have hsel : sel m a n k = false := by unfold sel; rw [hs1]; rfl
        have HF := Lib.hid (flips_off m a l k n HL.out hsel)
        have HT := Lib.hid (turned_skip m a n k hsel)
        clear hb hs1 hsel
        go_wp2
        go_roundw
        case rel => exact ⟨k + 1, by omega, by go_num, by rw [HT.out], by rw [HF.out]; exact r3, r2, hbel⟩
        case measure => simp [intOf]; omega
      | true =>
        rw [hs1] at hb
        have hb' : (bits .and .u32 ((m : Int) / 2 ^ k) 1 == 1) = true := by rw [hb]; rfl
        clear hb
        by_cases hs2 : a + k < 8 * n
        · have hsel : sel m a n k = true := by unfold sel; rw [hs1, decide_eq_true hs2]; rfl
          have HF := Lib.hid (flips_on m a l k n HL.out hsel)
          have HT := Lib.hid (turned_succ m a n k hsel)
          clear hs1 hsel
          obtain ⟨g, rfl, hg1, hg2⟩ := own_addr r3 (by omega)
          have hc := own_cell r3 (8 + (a + k) / 8) (by omega)
          have hf := r3.frozenAt (8 + (a + k) / 8)
          have hi : 8 + (a + k) / 8 < n + 8 := by omega
          obtain ⟨S1, S2⟩ := set_bytes r3 (8 + (a + k) / 8) _ _ (turn_val ((head8 n l ++ flips m a l k).getD (8 + (a + k) / 8) 0) ((a + k) % 8))
          have S3 := own_far r2 S2 (fun j hj => by have := Z2.out j hj; omega)
          have S5 := hbel.setCell (p := ⟨g, 8 + (a + k) / 8, none⟩) (by show w.heap.size ≤ g; omega) (.int .u8 (bits .xor .u8 (((head8 n l ++ flips m a l k).getD (8 + (a + k) / 8) 0).toNat : Int) ((2 : Int) ^ ((a + k) % 8) % 256)))
          generalize (head8 n l ++ flips m a l k).getD (8 + (a + k) / 8) 0 = u at *
          have H1 := Lib.hid S1
          have H3 := Lib.hid S3
          have H5 := Lib.hid S5
          clear S1 S2 S3 S5 r3 r2 hbel
          go_wp2
          go_roundw
          case rel => exact ⟨k + 1, by omega, by go_num, by rw [HT.out], by rw [HF.out]; exact H1.out, H3.out, H5.out⟩
          case measure => simp [intOf]; omega
        · have hsel : sel m a n k = false := by unfold sel; rw [decide_eq_false hs2, Bool.and_false]
          have HF := Lib.hid (flips_off m a l k n HL.out hsel)
          have HT := Lib.hid (turned_skip m a n k hsel)
          clear hs1 hsel
          go_wp2
          go_roundw
          case rel => exact ⟨k + 1, by omega, by go_num, by rw [HT.out], by rw [HF.out]; exact r3, r2, hbel⟩
          case measure => simp [intOf]; omega
    · obtain rfl : k = 32 := by omega
      obtain ⟨A3', c3', e3, m3⟩ := own_bs r3 (by omega)
      injection e3 with eA _ ec
      subst eA ec
      obtain ⟨A2', c2', e2, m2⟩ := own_bs r2 (by omega)
      injection e2 with eA _ ec
      subst eA ec
      have hlen : (flips m a l 32).length = n := by rw [flips_length, HL.out]
      have hd8 : ((head8 n l ++ flips m a l 32).drop 8).take n = flips m a l 32 := by rw [drop8_head]; exact List.take_of_length_le (by omega)
      have hsz := hbel.size
      clear hlen
      cases hT : turned m a n 32 with
      | true =>
        have hne := crc_flips m a l (by rw [HL.out]; exact ha) (by rw [HL.out]; exact hT)
        have nx := fun W => next_sum A3 (n + 8) c3 n (head8 n l ++ flips m a l 32) W
        have NX := Lib.hid nx
        have NE := Lib.hid hne
        have D8 := Lib.hid hd8
        clear nx hne hd8
        go_wp2_with (first
          | (go_at_call 19; refine (NX.out _ m3 (by omega) (num_head n l _ (by omega)) hn (by omega) (by rw [drop4_head, D8.out]; intro he; exact NE.out (BitVec.eq_of_toNat_eq he.symm))).mono ?_; rintro e w5 ⟨rfl, b5⟩; have bb := hbel.trans (b5.mono hsz); have mm2 := m2.below b5)
          | (go_at_call 17; refine (no_any _ _).mono ?_; rintro e w4 ⟨rfl, rfl⟩))
        go_ret
        exact ⟨rfl, bb⟩
      | false =>
        have D8 := Lib.hid hd8
        have HE := Lib.hid (flips_same m a l 32 (by rw [HL.out]; exact hT))
        clear hd8
        go_wp2_with (first
          | (go_at_call 19; refine (next_ok A3 (n + 8) c3 n (head8 n l ++ flips m a l 32) _ m3 (by omega) (num_head n l _ (by omega)) hn (by omega) (by rw [drop4_head, D8.out, HE.out])).mono ?_; rintro e w5 ⟨v5, rfl, own5, b5⟩; have bb := hbel.trans (b5.mono hsz); have mm2 := m2.below b5)
          | (go_at_call 17; refine (no_any _ _).mono ?_; rintro e w4 ⟨rfl, rfl⟩))
        go_ret
        exact ⟨rfl, bb⟩

set_option maxHeartbeats 2000000 in
theorem bursts_pos_more (A : Option Addr) (n cap : Nat) (l : List UInt8) (x : Int) (m s : Nat) (w : World) (h : BS w A n cap l) (hn : n ≤ 16777216) (a : Nat) (ha : a < 8 * n) (h0 : 0 < n) (hm : m < 4294967296) (hm0 : ((m : Int) != 0) = true) (hx1 : -9223372036854775808 ≤ x) (hx2 : x ≤ 9223372036854775807) (hneg : 0 ≤ x) (hq : x % (8 * (n : Int)) = a) (hs : s < 4294967296) (hs0 : s ≠ 0) :
    Calls Try.prog 5 #[.slice A n cap, .int .i64 x, .int .u32 m, .int .u32 s] w fun e w' => e = .returned (.bool true) ∧ Below w.heap.size w w' := by
  have hl : l.length = n := h.rb.1
  have HL := Lib.hid hl
  clear hl
  have hs1 : ((s : Int) == 0) = false := by rw [beq_eq_false_iff_ne]; omega
  go_enter Try.func5, Try.ntmps5
  go_wp2_with (go_at_call 11; refine (live_any _).mono ?_; rintro e w1 ⟨rfl, b1⟩)
  refine (put_yes A n cap l w1 (h.below b1) hn).mono ?_
  rintro e w2 ⟨v2, rfl, own2, b2⟩
  have Z2 := Lib.hid own2.lt
  obtain ⟨A2, c2, rfl, m2⟩ := own_bs own2 (by omega)
  have s01 := b1.size
  have s12 := b2.size
  go_wp2_with (first
    | (go_at_call 17; refine (no_any _ _).mono ?_; rintro e w4 ⟨rfl, rfl⟩)
    | (go_at_call 13; refine (own_any A2 (n + 8) c2 (frame l) _ m2).mono ?_; rintro e w3 ⟨v3, rfl, own3, b3⟩; obtain ⟨A3, c3, rfl, m3⟩ := own_bs own3 (by omega)))
  try rw [hq]
  have HQ := Lib.hid hq
  have o2 := own_below own2 b3 (Nat.le_refl _)
  have hb3 := (b1.trans (b2.mono s01)).trans (b3.mono (Nat.le_trans s01 s12))
  have hst : frame l = head8 n l ++ flips m a l 0 := by rw [frame_head, HL.out]; rfl
  rw [hst] at own3
  clear hq own2 b1 b2 b3 m2 m3 hst
  go_loopw [13, 14] (fun t i wr => ∃ k : Nat, k ≤ 32 ∧ i = .int .i64 k ∧ t = .bool (turned m a n k) ∧ wr.ownsRow w2.heap.size 5 1 (.slice A3 (n + 8) c3) (n + 8) (bl (head8 n l ++ flips m a l k)) ∧
      wr.ownsRow w1.heap.size 5 1 (.slice A2 (n + 8) c2) (n + 8) (bl (frame l)) ∧ Below w.heap.size w wr) (fun _ i _ => 32 - (intOf i).toNat)
  case atStart => exact ⟨0, by omega, rfl, rfl, own3, o2, hb3⟩
  case round =>
    obtain ⟨k, hk, rfl, rfl, r3, r2, hbel⟩ := hrel
    clear own3 o2 hb3
    by_cases hlt : k < 32
    · have hb := mask_bit m k hm
      cases hs1 : m.testBit k with
      | false =>
        rw [hs1] at hb
        have hb' : (bits .and .u32 ((m : Int) / 2 ^ k) 1 == 1) = false := by rw [hb]; rfl
        have hsel : sel m a n k = false := by unfold sel; rw [hs1]; rfl
        have HF := Lib.hid (flips_off m a l k n HL.out hsel)
        have HT := Lib.hid (turned_skip m a n k hsel)
        clear hb hs1 hsel
        go_wp2
        go_roundw
        case rel => exact ⟨k + 1, by omega, by go_num, by rw [HT.out], by rw [HF.out]; exact r3, r2, hbel⟩
        case measure => simp [intOf]; omega
      | true =>
        rw [hs1] at hb
        have hb' : (bits .and .u32 ((m : Int) / 2 ^ k) 1 == 1) = true := by rw [hb]; rfl
        clear hb
        by_cases hs2 : a + k < 8 * n
        · have hsel : sel m a n k = true := by unfold sel; rw [hs1, decide_eq_true hs2]; rfl
          have HF := Lib.hid (flips_on m a l k n HL.out hsel)
          have HT := Lib.hid (turned_succ m a n k hsel)
          clear hs1 hsel
          obtain ⟨g, rfl, hg1, hg2⟩ := own_addr r3 (by omega)
          have hc := own_cell r3 (8 + (a + k) / 8) (by omega)
          have hf := r3.frozenAt (8 + (a + k) / 8)
          have hi : 8 + (a + k) / 8 < n + 8 := by omega
          obtain ⟨S1, S2⟩ := set_bytes r3 (8 + (a + k) / 8) _ _ (turn_val ((head8 n l ++ flips m a l k).getD (8 + (a + k) / 8) 0) ((a + k) % 8))
          have S3 := own_far r2 S2 (fun j hj => by have := Z2.out j hj; omega)
          have S5 := hbel.setCell (p := ⟨g, 8 + (a + k) / 8, none⟩) (by show w.heap.size ≤ g; omega) (.int .u8 (bits .xor .u8 (((head8 n l ++ flips m a l k).getD (8 + (a + k) / 8) 0).toNat : Int) ((2 : Int) ^ ((a + k) % 8) % 256)))
          generalize (head8 n l ++ flips m a l k).getD (8 + (a + k) / 8) 0 = u at *
          have H1 := Lib.hid S1
          have H3 := Lib.hid S3
          have H5 := Lib.hid S5
          clear S1 S2 S3 S5 r3 r2 hbel
          go_wp2
          go_roundw
          case rel => exact ⟨k + 1, by omega, by go_num, by rw [HT.out], by rw [HF.out]; exact H1.out, H3.out, H5.out⟩
          case measure => simp [intOf]; omega
        · have hsel : sel m a n k = false := by unfold sel; rw [decide_eq_false hs2, Bool.and_false]
          have HF := Lib.hid (flips_off m a l k n HL.out hsel)
          have HT := Lib.hid (turned_skip m a n k hsel)
          clear hs1 hsel
          go_wp2
          go_roundw
          case rel => exact ⟨k + 1, by omega, by go_num, by rw [HT.out], by rw [HF.out]; exact r3, r2, hbel⟩
          case measure => simp [intOf]; omega
    · obtain rfl : k = 32 := by omega
      obtain ⟨A3', c3', e3, m3⟩ := own_bs r3 (by omega)
      injection e3 with eA _ ec
      subst eA ec
      obtain ⟨A2', c2', e2, m2⟩ := own_bs r2 (by omega)
      injection e2 with eA _ ec
      subst eA ec
      have hlen : (flips m a l 32).length = n := by rw [flips_length, HL.out]
      have hd8 : ((head8 n l ++ flips m a l 32).drop 8).take n = flips m a l 32 := by rw [drop8_head]; exact List.take_of_length_le (by omega)
      have hsz := hbel.size
      clear hlen
      cases hT : turned m a n 32 with
      | true =>
        have hne := crc_flips m a l (by rw [HL.out]; exact ha) (by rw [HL.out]; exact hT)
        have nx := fun W => next_sum A3 (n + 8) c3 n (head8 n l ++ flips m a l 32) W
        have NX := Lib.hid nx
        have NE := Lib.hid hne
        have D8 := Lib.hid hd8
        clear nx hne hd8
        go_wp2_with (first
          | (go_at_call 19; refine (NX.out _ m3 (by omega) (num_head n l _ (by omega)) hn (by omega) (by rw [drop4_head, D8.out]; intro he; exact NE.out (BitVec.eq_of_toNat_eq he.symm))).mono ?_; rintro e w5 ⟨rfl, b5⟩; have bb := hbel.trans (b5.mono hsz); have mm2 := m2.below b5)
          | (go_at_call 17; refine (no_any _ _).mono ?_; rintro e w4 ⟨rfl, rfl⟩))
        go_wp2_with (first
          | (go_at_call 13; refine (own_any A2 (n + 8) c2 (frame l) _ mm2).mono ?_; rintro e w8 ⟨v8, rfl, own8, b8⟩; obtain ⟨A8, c8, rfl, m8⟩ := own_bs own8 (by omega)))
        have hb8 := bb.trans (b8.mono bb.size)
        have s5 := bb.size
        clear b8 bb mm2
        go_loopw [19] (fun i wr => ∃ k : Nat, k ≤ 4 ∧ i = .int .i64 k ∧ wr.ownsRow w.heap.size 5 1 (.slice A8 (n + 8) c8) (n + 8) (bl (sums s l k)) ∧ Below w.heap.size w wr) (fun i _ => 4 - (intOf i).toNat)
        case atStart => exact ⟨0, by omega, rfl, own_mono own8 s5, hb8⟩
        case round =>
          obtain ⟨k, hk, rfl, r8, hbel⟩ := hrel
          clear own8 m8 hb8
          by_cases hlt : k < 4
          · obtain ⟨g, rfl, hg1, hg2⟩ := own_addr r8 (by omega)
            have hc := own_cell r8 (4 + k) (by omega)
            have hf := r8.frozenAt (4 + k)
            have hi : 4 + k < n + 8 := by omega
            have HS := Lib.hid (show sums s l (k + 1) = (sums s l k).set (4 + k) ((sums s l k).getD (4 + k) 0 ^^^ UInt8.ofNat (s / 2 ^ (8 * k))) from rfl)
            obtain ⟨S1, S2⟩ := set_bytes r8 (4 + k) _ _ (sum_val ((sums s l k).getD (4 + k) 0) s k)
            have S5 := hbel.setCell (p := ⟨g, 4 + k, none⟩) hg1 (.int .u8 (bits .xor .u8 (((sums s l k).getD (4 + k) 0).toNat : Int) ((s : Int) / 2 ^ (8 * k) % 256)))
            generalize (sums s l k).getD (4 + k) 0 = u at *
            have H1 := Lib.hid S1
            have H5 := Lib.hid S5
            clear S1 S2 S5 r8 hbel
            go_wp2
            go_roundw
            case rel => exact ⟨k + 1, by omega, by go_num, by rw [HS.out]; exact H1.out, H5.out⟩
            case measure => simp [intOf]; omega
          · obtain rfl : k = 4 := by omega
            obtain ⟨A8', c8', e8, m8⟩ := own_bs r8 (by omega)
            injection e8 with eA _ ec
            subst eA ec
            have hd8 : ((sums s l 4).drop 8).take n = l := by rw [sums_drop8]; exact List.take_of_length_le (by have := HL.out; omega)
            go_wp2_with (first
              | (go_at_call 19; refine (next_sum A8 (n + 8) c8 n (sums s l 4) _ m8 (by omega) (by rw [sums_num _ _ (by have := HL.out; omega)]; exact HL.out) hn (by omega) (by rw [hd8]; exact sums_ne s l hs hs0)).mono ?_; rintro e w9 ⟨rfl, b9⟩)
              | (go_at_call 17; refine (no_any _ _).mono ?_; rintro e w9' ⟨rfl, rfl⟩))
            go_ret
            exact ⟨rfl, hbel.trans (b9.mono hbel.size)⟩
      | false =>
        have D8 := Lib.hid hd8
        have HE := Lib.hid (flips_same m a l 32 (by rw [HL.out]; exact hT))
        clear hd8
        go_wp2_with (first
          | (go_at_call 19; refine (next_ok A3 (n + 8) c3 n (head8 n l ++ flips m a l 32) _ m3 (by omega) (num_head n l _ (by omega)) hn (by omega) (by rw [drop4_head, D8.out, HE.out])).mono ?_; rintro e w5 ⟨v5, rfl, own5, b5⟩; have bb := hbel.trans (b5.mono hsz); have mm2 := m2.below b5)
          | (go_at_call 17; refine (no_any _ _).mono ?_; rintro e w4 ⟨rfl, rfl⟩))
        go_wp2_with (first
          | (go_at_call 13; refine (own_any A2 (n + 8) c2 (frame l) _ mm2).mono ?_; rintro e w8 ⟨v8, rfl, own8, b8⟩; obtain ⟨A8, c8, rfl, m8⟩ := own_bs own8 (by omega)))
        have hb8 := bb.trans (b8.mono bb.size)
        have s5 := bb.size
        clear b8 bb mm2
        go_loopw [19] (fun i wr => ∃ k : Nat, k ≤ 4 ∧ i = .int .i64 k ∧ wr.ownsRow w.heap.size 5 1 (.slice A8 (n + 8) c8) (n + 8) (bl (sums s l k)) ∧ Below w.heap.size w wr) (fun i _ => 4 - (intOf i).toNat)
        case atStart => exact ⟨0, by omega, rfl, own_mono own8 s5, hb8⟩
        case round =>
          obtain ⟨k, hk, rfl, r8, hbel⟩ := hrel
          clear own8 m8 hb8
          by_cases hlt : k < 4
          · obtain ⟨g, rfl, hg1, hg2⟩ := own_addr r8 (by omega)
            have hc := own_cell r8 (4 + k) (by omega)
            have hf := r8.frozenAt (4 + k)
            have hi : 4 + k < n + 8 := by omega
            have HS := Lib.hid (show sums s l (k + 1) = (sums s l k).set (4 + k) ((sums s l k).getD (4 + k) 0 ^^^ UInt8.ofNat (s / 2 ^ (8 * k))) from rfl)
            obtain ⟨S1, S2⟩ := set_bytes r8 (4 + k) _ _ (sum_val ((sums s l k).getD (4 + k) 0) s k)
            have S5 := hbel.setCell (p := ⟨g, 4 + k, none⟩) hg1 (.int .u8 (bits .xor .u8 (((sums s l k).getD (4 + k) 0).toNat : Int) ((s : Int) / 2 ^ (8 * k) % 256)))
            generalize (sums s l k).getD (4 + k) 0 = u at *
            have H1 := Lib.hid S1
            have H5 := Lib.hid S5
            clear S1 S2 S5 r8 hbel
            go_wp2
            go_roundw
            case rel => exact ⟨k + 1, by omega, by go_num, by rw [HS.out]; exact H1.out, H5.out⟩
            case measure => simp [intOf]; omega
          · obtain rfl : k = 4 := by omega
            obtain ⟨A8', c8', e8, m8⟩ := own_bs r8 (by omega)
            injection e8 with eA _ ec
            subst eA ec
            have hd8 : ((sums s l 4).drop 8).take n = l := by rw [sums_drop8]; exact List.take_of_length_le (by have := HL.out; omega)
            go_wp2_with (first
              | (go_at_call 19; refine (next_sum A8 (n + 8) c8 n (sums s l 4) _ m8 (by omega) (by rw [sums_num _ _ (by have := HL.out; omega)]; exact HL.out) hn (by omega) (by rw [hd8]; exact sums_ne s l hs hs0)).mono ?_; rintro e w9 ⟨rfl, b9⟩)
              | (go_at_call 17; refine (no_any _ _).mono ?_; rintro e w9' ⟨rfl, rfl⟩))
            go_ret
            exact ⟨rfl, hbel.trans (b9.mono hbel.size)⟩

end Go.Proofs.Ytgcglnohpmpnkaa
