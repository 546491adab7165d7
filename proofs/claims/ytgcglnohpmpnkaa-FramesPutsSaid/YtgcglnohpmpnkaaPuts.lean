/- The walk of FramesPuts. -/
import Derived.Test.YtgcglnohpmpnkaaW9
namespace Go.Proofs.Ytgcglnohpmpnkaa
open Go.RowKit

set_option maxHeartbeats 2000000 in
theorem puts_yes (A : Option Addr) (n cap : Nat) (l : List UInt8) (w : World) (h : BS w A n cap l) (hn : n ≤ 16777216) :
    Calls Try.prog 4 #[.slice A n cap] w fun e w' => e = .returned (.bool true) ∧ Below w.heap.size w w' := by
  go_enter Try.func4, Try.ntmps4
  go_wp2_with fail
  refine (own_any A n cap l w h).mono ?_
  rintro e w1 ⟨v1, rfl, own1, b1⟩
  obtain ⟨A1, c1, rfl, m1⟩ := own_bs own1 h.rb.2.1
  go_wp2_with fail
  refine (put_yes A1 n c1 l w1 m1 hn).mono ?_
  rintro e w2 ⟨v2, rfl, own2, b2⟩
  obtain ⟨A2, c2, rfl, m2⟩ := own_bs own2 (by omega)
  go_wp2_with fail
  have h2 := (h.below b1).below b2
  refine (putref_yes A n cap l w2 h2 hn).mono ?_
  rintro e w3 ⟨v3, rfl, own3, b3⟩
  obtain ⟨A3, c3, rfl, m3⟩ := own_bs own3 (by omega)
  have q1 := (m1.below b2).below b3
  have q2 := m2.below b3
  have q0 := h2.below b3
  have own1' := own_below (own_below own1 b2 (Nat.le_refl _)) b3 (Nat.le_refl _)
  have own2' := own_below own2 b3 (Nat.le_refl _)
  have bb := (b1.trans (b2.mono b1.size)).trans (b3.mono (Nat.le_trans b1.size b2.size))
  have Z1 := Lib.hid own1.lt
  have Z2 := Lib.hid own2.lt
  have Z3 := Lib.hid own3.lt
  have s12 := b2.size
  have s23 := b3.size
  clear own1 own2 m1 m2 h2 b1 b2 b3
  go_wp2_with (first
    | (go_at_call 12; refine (sum_any A1 n c1 l _ q1.rb).mono ?_; rintro e w4 ⟨rfl, rfl⟩)
    | (go_at_call 16; refine (sumref_any A n cap l _ q0.rb).mono ?_; rintro e w4 ⟨rfl, rfl⟩)
    | (go_at_call 17; refine (no_any _ _).mono ?_; rintro e w4 ⟨rfl, rfl⟩)
    | (go_at_call 18; refine (same_yes A2 A3 (n + 8) c2 c3 _ _ q2.rb m3.rb).mono ?_; rintro e w4 ⟨rfl, k4, rfl⟩)
    | (go_at_call 11; refine (live_any _).mono ?_; rintro e w5 ⟨rfl, b5⟩))
  have s35 : w3.heap.size ≤ w5.heap.size := by have := b5.size; simpa using this
  have o1 := own_below (own_drewN own1' k4) b5 (Nat.le_refl _)
  have o2 := own_below (own_drewN own2' k4) b5 (Nat.le_refl _)
  have o3 := own_below (own_drewN own3 k4) b5 (Nat.le_refl _)
  have s01 : w.heap.size ≤ w3.heap.size := bb.size
  have bb5 := (below_drewN bb k4).trans (b5.mono (by simp; omega))
  clear own1' own2' own3 bb b5 q0 q1 q2 m3
  go_loopw [8] (fun i wr => ∃ (k : Nat) (l' : List UInt8), k ≤ n ∧ i = .int .i64 k ∧ wr.ownsRow w.heap.size 5 1 (.slice A1 n c1) n (bl l') ∧ wr.ownsRow w1.heap.size 5 1 (.slice A2 (n + 8) c2) (n + 8) (bl (frame l)) ∧
      wr.ownsRow w2.heap.size 5 1 (.slice A3 (n + 8) c3) (n + 8) (bl (frame l)) ∧ Below w.heap.size w wr ∧ w3.heap.size ≤ wr.heap.size) (fun i _ => n - (intOf i).toNat)
  case atStart => exact ⟨0, l, by omega, rfl, o1, o2, o3, bb5, s35⟩
  case round =>
    obtain ⟨k, l', hk, rfl, r1, r2, r3, hbel, hsz⟩ := hrel
    clear o1 o2 o3 bb5 s35
    by_cases hlt : k < n
    · obtain ⟨g, rfl, hg1, hg2⟩ := own_addr r1 (by omega)
      have hc := own_cell r1 k hlt
      have hf := r1.frozenAt k
      obtain ⟨S1, S2⟩ := set_bytes r1 k (((l'.getD k 0).toNat + 1) % 256) (l'.getD k 0 + 1) (u8_succ _)
      have S3 := own_far r2 S2 (fun j hj => by have := Z2.out j hj; have := Z1.out g rfl; omega)
      have S4 := own_far r3 S2 (fun j hj => by have := Z3.out j hj; have := Z1.out g rfl; omega)
      have S5 := hbel.setCell (p := ⟨g, k, none⟩) hg1 (.int .u8 (((l'.getD k 0).toNat + 1) % 256))
      generalize l'.getD k 0 = u at *
      have H1 := Lib.hid S1
      have H3 := Lib.hid S3
      have H4 := Lib.hid S4
      have H5 := Lib.hid S5
      clear S1 S2 S3 S4 S5 r1 r2 r3 hbel
      go_wp2
      go_roundw
      case rel => exact ⟨k + 1, l'.set k (u + 1), by omega, by go_num, H1.out, H3.out, H4.out, H5.out, by simpa using hsz⟩
      case measure => simp [intOf]; omega
    · go_wp2_with fail
      refine (put_yes A n cap l wr (h.below hbel) hn).mono ?_
      rintro e w6 ⟨v4, rfl, own4, b6⟩
      have Z4 := Lib.hid own4.lt
      obtain ⟨A4, c4, rfl, m4⟩ := own_bs own4 (by omega)
      have r2' := own_below r2 b6 (Nat.le_refl _)
      have r3' := own_below r3 b6 (Nat.le_refl _)
      have hb6 := hbel.trans (b6.mono hbel.size)
      have s6 := b6.size
      clear r1 r2 r3 hbel m4 b6 hlt
      go_wp2_with fail
      go_loopw [11] (fun i wq => ∃ (j : Nat) (l' : List UInt8), j ≤ n + 8 ∧ i = .int .i64 j ∧ wq.ownsRow wr.heap.size 5 1 (.slice A4 (n + 8) c4) (n + 8) (bl l') ∧ wq.ownsRow w1.heap.size 5 1 (.slice A2 (n + 8) c2) (n + 8) (bl (frame l)) ∧
          wq.ownsRow w2.heap.size 5 1 (.slice A3 (n + 8) c3) (n + 8) (bl (frame l)) ∧ Below w.heap.size w wq) (fun i _ => n + 8 - (intOf i).toNat)
      case atStart => exact ⟨0, frame l, by omega, rfl, own4, r2', r3', hb6⟩
      case round =>
        obtain ⟨j, l4, hj, rfl, r4, r2, r3, hbel⟩ := hrel
        clear own4 r2' r3' hb6
        by_cases hlt : j < n + 8
        · obtain ⟨g, rfl, hg1, hg2⟩ := own_addr r4 (by omega)
          have hc := own_cell r4 j hlt
          have hf := r4.frozenAt j
          obtain ⟨S1, S2⟩ := set_bytes r4 j (((l4.getD j 0).toNat + 1) % 256) (l4.getD j 0 + 1) (u8_succ _)
          have S3 := own_far r2 S2 (fun q hq => by have := Z2.out q hq; omega)
          have S4 := own_far r3 S2 (fun q hq => by have := Z3.out q hq; omega)
          have S5 := hbel.setCell (p := ⟨g, j, none⟩) (by show w.heap.size ≤ g; omega) (.int .u8 (((l4.getD j 0).toNat + 1) % 256))
          generalize l4.getD j 0 = u at *
          have H1 := Lib.hid S1
          have H3 := Lib.hid S3
          have H4 := Lib.hid S4
          have H5 := Lib.hid S5
          clear S1 S2 S3 S4 S5 r4 r2 r3 hbel
          have hj2 : (j : Int) < (n : Int) + 8 := by omega
          go_wp2
          go_roundw
          case rel => exact ⟨j + 1, l4.set j (u + 1), by omega, by go_num, H1.out, H3.out, H4.out, H5.out⟩
          case measure => simp [intOf]; omega
        · obtain ⟨A2', c2', e2, m2⟩ := own_bs r2 (by omega)
          injection e2 with eA _ ec
          subst eA ec
          obtain ⟨A3', c3', e3, m3⟩ := own_bs r3 (by omega)
          injection e3 with eA _ ec
          subst eA ec
          go_wp2_with (go_at_call 18; refine (same_yes A2 A3 (n + 8) c2 c3 _ _ m2.rb m3.rb).mono ?_; rintro e w7 ⟨rfl, k7, rfl⟩)
          go_ret
          exact ⟨rfl, below_drewN hbel _⟩

set_option maxHeartbeats 2000000 in
theorem puts_no (A : Option Addr) (n cap : Nat) (l : List UInt8) (w : World) (h : BS w A n cap l) (hn : 16777216 < n) :
    Calls Try.prog 4 #[.slice A n cap] w fun e w' => e = .returned (.bool true) ∧ Below w.heap.size w w' := by
  have hn2 := h.rb.2.1
  go_enter Try.func4, Try.ntmps4
  go_wp2_with fail
  refine (own_any A n cap l w h).mono ?_
  rintro e w1 ⟨v1, rfl, own1, b1⟩
  obtain ⟨A1, c1, rfl, m1⟩ := own_bs own1 h.rb.2.1
  have q0 := h.below b1
  have nil2 := fun W => BS.nil_ W
  go_wp2_with (first
    | (go_at_call 14; refine (put_no A1 n c1 _ hn).mono ?_; rintro e w4 ⟨rfl, rfl⟩)
    | (go_at_call 15; refine (putref_no A n cap _ hn).mono ?_; rintro e w4 ⟨rfl, rfl⟩)
    | (go_at_call 12; refine (sum_any A1 n c1 l _ m1.rb).mono ?_; rintro e w4 ⟨rfl, rfl⟩)
    | (go_at_call 16; refine (sumref_any A n cap l _ q0.rb).mono ?_; rintro e w4 ⟨rfl, rfl⟩)
    | (go_at_call 17; refine (no_any _ _).mono ?_; rintro e w4 ⟨rfl, rfl⟩)
    | (go_at_call 18; refine (same_yes none none 0 0 0 _ _ (nil2 _).rb (nil2 _).rb).mono ?_; rintro e w4 ⟨rfl, k4, rfl⟩)
    | (go_at_call 11; refine (live_any _).mono ?_; rintro e w5 ⟨rfl, b5⟩))
  have bb5 := (below_drewN b1 k4).trans (b5.mono (by have := b1.size; simpa using this))
  have o1 := own_below (own_drewN own1 k4) b5 (Nat.le_refl _)
  clear own1 m1 q0 b5 b1
  go_loopw [8] (fun i wr => ∃ (k : Nat) (l' : List UInt8), k ≤ n ∧ i = .int .i64 k ∧ wr.ownsRow w.heap.size 5 1 (.slice A1 n c1) n (bl l') ∧ Below w.heap.size w wr) (fun i _ => n - (intOf i).toNat)
  case atStart => exact ⟨0, l, by omega, rfl, o1, bb5⟩
  case round =>
    obtain ⟨k, l', hk, rfl, r1, hbel⟩ := hrel
    clear o1 bb5
    by_cases hlt : k < n
    · obtain ⟨g, rfl, hg1, hg2⟩ := own_addr r1 (by omega)
      have hc := own_cell r1 k hlt
      have hf := r1.frozenAt k
      obtain ⟨S1, S2⟩ := set_bytes r1 k (((l'.getD k 0).toNat + 1) % 256) (l'.getD k 0 + 1) (u8_succ _)
      have S5 := hbel.setCell (p := ⟨g, k, none⟩) hg1 (.int .u8 (((l'.getD k 0).toNat + 1) % 256))
      generalize l'.getD k 0 = u at *
      have H1 := Lib.hid S1
      have H5 := Lib.hid S5
      clear S1 S2 S5 r1 hbel
      go_wp2
      go_roundw
      case rel => exact ⟨k + 1, l'.set k (u + 1), by omega, by go_num, H1.out, H5.out⟩
      case measure => simp [intOf]; omega
    · go_wp2_with (go_at_call 14; refine (put_no A n cap _ hn).mono ?_; rintro e w4 ⟨rfl, rfl⟩)
      refine wp_loop_rounds 1 ?_
      rw [rounds_succ]
      go_wp2_with (go_at_call 18; refine (same_yes none none 0 0 0 _ _ (nil2 _).rb (nil2 _).rb).mono ?_; rintro e w4 ⟨rfl, k5, rfl⟩)
      go_ret
      exact ⟨rfl, below_drewN hbel _⟩
theorem puts_walk (A : Option Addr) (n cap : Nat) (l : List UInt8) (w : World) (h : BS w A n cap l) :
    Calls Try.prog 4 #[.slice A n cap] w fun e w' => e = .returned (.bool true) ∧ Below w.heap.size w w' := by
  by_cases hn : n ≤ 16777216
  · exact puts_yes A n cap l w h hn
  · exact puts_no A n cap l w h (by omega)
end Go.Proofs.Ytgcglnohpmpnkaa
