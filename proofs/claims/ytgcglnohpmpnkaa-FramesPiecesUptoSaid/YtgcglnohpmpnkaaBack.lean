/- The walk of FramesBack. -/
import Derived.Test.YtgcglnohpmpnkaaNexts
import Derived.Test.YtgcglnohpmpnkaaM4
namespace Go.Proofs.Ytgcglnohpmpnkaa
open Go.RowKit

theorem next_frame (A : Option Addr) (n cap k : Nat) (l r : List UInt8) (w : World) (h : BS w A n cap (frame l ++ r)) (hl : l.length = k) (hk : k ≤ 16777216) :
    Calls Try.prog 19 #[.slice A n cap] w fun e w' => ∃ v, e = .returned (.tuple #[v, .int .i64 (k + 8), .int .i64 0]) ∧ w'.ownsRow w.heap.size 5 1 v k (bl l) ∧ Below w.heap.size w w' := by
  subst hl
  have := next_good A n cap _ w h (frame_next l r hk).1
  rwa [frame_num l r hk, (frame_next l r hk).2] at this
theorem next_cut (A : Option Addr) (n cap k : Nat) (l : List UInt8) (w : World) (h : BS w A n cap ((frame l).take k)) (hl : l.length ≤ 16777216) (hk : k < l.length + 8) :
    Calls Try.prog 19 #[.slice A n cap] w fun e w' => e = .returned (.tuple #[.slice none 0 0, .int .i64 0, .int .i64 41]) ∧ Below w.heap.size w w' := by
  have he := frame_torn l k hl hk
  have := next_fail A n cap _ w h (by rw [he]; omega)
  rwa [he] at this
theorem split_joined (A : Option Addr) (n cap m : Nat) (ls : List (List UInt8)) (w : World) (h : BS w A n cap (joined ls)) (hm : ls.length = m) (hn : n ≤ 16777216) :
    Calls Try.prog 21 #[.slice A n cap] w fun e w' => ∃ v, e = .returned (.tuple #[v, .int .i64 n, .int .i64 0]) ∧ (∃ A' c', v = .slice A' m c' ∧ BB w' A' m c' ls) ∧ Below w.heap.size w w' := by
  subst hm
  have hl := h.rb.1
  refine (split_any A n cap _ w h hn).mono ?_
  rintro e w' ⟨v, xs, a, er, rfl, own1, rows1, sp1, b1⟩
  have hj := joined_length ls
  obtain ⟨ex, rfl, rfl⟩ := sp1.det (spl_joined_all ls fun l hl => by have := mem_le_sum hl; omega)
  obtain ⟨A', c', rfl, hb⟩ := coll_bb own1 rows1
  have hx : xs.length = ls.length := by rw [← ex]; simp
  rw [ex, hx] at hb
  rw [hl, hx]
  exact ⟨_, rfl, ⟨_, _, rfl, hb⟩, b1⟩
set_option maxHeartbeats 4000000 in
theorem back_neg (A A' A'' : Option Addr) (n cap n' cap' n'' cap'' : Nat) (l l' : List UInt8) (ls : List (List UInt8)) (x : Int) (w : World) (h : BS w A n cap l) (h' : BS w A' n' cap' l') (h'' : BB w A'' n'' cap'' ls) (hn : n ≤ 1048576) (hn' : n' ≤ 1048576) (hls : lenSum ls + n'' ≤ 1048576)
    (hx1 : -9223372036854775808 ≤ x) (hx2 : x ≤ 9223372036854775807) (hneg : x < 0) (a : Nat) (ha : a < n + 8) (hq : -((x + 1).tmod ((n : Int) + 8)) = a) :
    Calls Try.prog 7 #[.slice A n cap, .slice A' n' cap', .int .i64 x, .slice A'' n'' cap''] w fun e w' => e = .returned (.bool true) ∧ Below w.heap.size w w' := by
  have HL := Lib.hid h.rb.1
  have HL' := Lib.hid h'.rb.1
  go_enter Try.func7, Try.ntmps7
  go_wp2_with (go_at_call 11; refine (live_any _).mono ?_; rintro e w1 ⟨rfl, b1⟩)
  refine (put_yes A n cap l w1 (h.below b1) (by omega)).mono ?_
  rintro e w2 ⟨v2, rfl, own2, b2⟩
  have Z2 := Lib.hid own2.lt
  obtain ⟨A2, c2, rfl, m2⟩ := own_bs own2 (by omega)
  have ha2 : a ≤ c2 := by have := m2.le; omega
  have m2a := m2.upto a (by omega)
  have s01 := b1.size
  have s12 := b2.size
  go_wp2_with (first
    | (go_at_call 17; refine (no_any _ _).mono ?_; rintro e w4 ⟨rfl, rfl⟩)
    | (go_at_call 13; refine (own_any A2 (n + 8) c2 (frame l) _ m2).mono ?_; rintro e w3 ⟨v3, rfl, own3, b3⟩; obtain ⟨A3, c3, rfl, m3⟩ := own_bs own3 (by omega); have hb3 := (b1.trans (b2.mono s01)).trans (b3.mono (Nat.le_trans s01 s12)); have hb' := h'.below hb3)
    | (at_builtin; refine wpList_app sB rfl (.tmp 30) (.tmp 31) rfl w2.heap.size _ (n + 8) _ rfl own3 A' n' cap' _ rfl hb'.rb.rd (fun _ => hb'.nil) (bl_one _) (by unfold maxLen; omega) (by omega) b3.size ?_; intro v5 w5 own5 g5 at5; rw [← bl_append] at own5; obtain ⟨A5, c5, rfl, m5⟩ := own_bs own5 (by omega); clear at5; have g5' : w3.grownBy w5 (Value.slice A3 (n + 8) c3).ownBlock := g5; clear g5)
    | (go_at_call 19; (refine (next_frame A5 (n + 8 + n') c5 n l l' w5 m5 HL.out (by omega)).mono ?_; clear m5; rintro e w6 ⟨v6, rfl, own6, b6⟩; obtain ⟨A6, c6, rfl, m6⟩ := own_bs own6 (by omega); have b5 := below_app b3 g5' own3 (Nat.le_refl _) b3.size; have hb5 := (b1.trans (b2.mono s01)).trans (b5.mono (Nat.le_trans s01 s12)); have hb6 := hb5.trans (b6.mono hb5.size); have h6 := h.below hb6; have h6'' := h''.below hb6; have m6a := (m2a.below b5).below b6))
    | (go_at_call 18; refine (same_yes A6 A _ c6 cap _ _ m6.rb h6.rb).mono ?_; rintro e w7 ⟨rfl, k7, rfl⟩)
    | (go_at_call 19; refine (next_cut A2 a c2 a l _ (m6a.drewN k7) (by have := HL.out; omega) (by have := HL.out; omega)).mono ?_; rintro e w8 ⟨rfl, b8⟩)
    | (go_at_call 24; refine (join_ok A'' n'' cap'' ls _ ((h6''.drewN k7).below b8) hls).mono ?_; rintro e w9 ⟨v9, rfl, own9, b9⟩; obtain ⟨A9, c9, rfl, m9⟩ := own_bs own9 (by rw [joined_length, h''.len]; omega))
    | (go_at_call 21; refine (split_joined A9 _ c9 n'' ls _ m9 h''.len (by rw [joined_length, h''.len]; omega)).mono ?_; rintro e w10 ⟨v10, rfl, ⟨A10, c10, rfl, m10⟩, b10⟩)
    | (go_at_call 23; refine (sameAll_yes A10 A'' _ c10 cap'' _ _ m10 ((((h6''.drewN k7).below b8).below b9).below b10)).mono ?_; rintro e w11 ⟨rfl, k11, rfl⟩)
    )
  go_ret
  have q7 := below_drewN hb6 k7
  have q8 := q7.trans (b8.mono q7.size)
  have q9 := q8.trans (b9.mono q8.size)
  exact ⟨rfl, below_drewN (q9.trans (b10.mono q9.size)) _⟩

set_option maxHeartbeats 4000000 in
theorem back_pos (A A' A'' : Option Addr) (n cap n' cap' n'' cap'' : Nat) (l l' : List UInt8) (ls : List (List UInt8)) (x : Int) (w : World) (h : BS w A n cap l) (h' : BS w A' n' cap' l') (h'' : BB w A'' n'' cap'' ls) (hn : n ≤ 1048576) (hn' : n' ≤ 1048576) (hls : lenSum ls + n'' ≤ 1048576)
    (hx1 : -9223372036854775808 ≤ x) (hx2 : x ≤ 9223372036854775807) (hpos : 0 ≤ x) (a : Nat) (ha : a < n + 8) (hq : x.tmod ((n : Int) + 8) = a) :
    Calls Try.prog 7 #[.slice A n cap, .slice A' n' cap', .int .i64 x, .slice A'' n'' cap''] w fun e w' => e = .returned (.bool true) ∧ Below w.heap.size w w' := by
  have HL := Lib.hid h.rb.1
  have HL' := Lib.hid h'.rb.1
  go_enter Try.func7, Try.ntmps7
  go_wp2_with (go_at_call 11; refine (live_any _).mono ?_; rintro e w1 ⟨rfl, b1⟩)
  refine (put_yes A n cap l w1 (h.below b1) (by omega)).mono ?_
  rintro e w2 ⟨v2, rfl, own2, b2⟩
  have Z2 := Lib.hid own2.lt
  obtain ⟨A2, c2, rfl, m2⟩ := own_bs own2 (by omega)
  have ha2 : a ≤ c2 := by have := m2.le; omega
  have m2a := m2.upto a (by omega)
  have s01 := b1.size
  have s12 := b2.size
  go_wp2_with (first
    | (go_at_call 17; refine (no_any _ _).mono ?_; rintro e w4 ⟨rfl, rfl⟩)
    | (go_at_call 13; refine (own_any A2 (n + 8) c2 (frame l) _ m2).mono ?_; rintro e w3 ⟨v3, rfl, own3, b3⟩; obtain ⟨A3, c3, rfl, m3⟩ := own_bs own3 (by omega); have hb3 := (b1.trans (b2.mono s01)).trans (b3.mono (Nat.le_trans s01 s12)); have hb' := h'.below hb3)
    | (at_builtin; refine wpList_app sB rfl (.tmp 30) (.tmp 31) rfl w2.heap.size _ (n + 8) _ rfl own3 A' n' cap' _ rfl hb'.rb.rd (fun _ => hb'.nil) (bl_one _) (by unfold maxLen; omega) (by omega) b3.size ?_; intro v5 w5 own5 g5 at5; rw [← bl_append] at own5; obtain ⟨A5, c5, rfl, m5⟩ := own_bs own5 (by omega); clear at5; have g5' : w3.grownBy w5 (Value.slice A3 (n + 8) c3).ownBlock := g5; clear g5)
    | (go_at_call 19; (refine (next_frame A5 (n + 8 + n') c5 n l l' w5 m5 HL.out (by omega)).mono ?_; clear m5; rintro e w6 ⟨v6, rfl, own6, b6⟩; obtain ⟨A6, c6, rfl, m6⟩ := own_bs own6 (by omega); have b5 := below_app b3 g5' own3 (Nat.le_refl _) b3.size; have hb5 := (b1.trans (b2.mono s01)).trans (b5.mono (Nat.le_trans s01 s12)); have hb6 := hb5.trans (b6.mono hb5.size); have h6 := h.below hb6; have h6'' := h''.below hb6; have m6a := (m2a.below b5).below b6))
    | (go_at_call 18; refine (same_yes A6 A _ c6 cap _ _ m6.rb h6.rb).mono ?_; rintro e w7 ⟨rfl, k7, rfl⟩)
    | (go_at_call 19; refine (next_cut A2 a c2 a l _ (m6a.drewN k7) (by have := HL.out; omega) (by have := HL.out; omega)).mono ?_; rintro e w8 ⟨rfl, b8⟩)
    | (go_at_call 24; refine (join_ok A'' n'' cap'' ls _ ((h6''.drewN k7).below b8) hls).mono ?_; rintro e w9 ⟨v9, rfl, own9, b9⟩; obtain ⟨A9, c9, rfl, m9⟩ := own_bs own9 (by rw [joined_length, h''.len]; omega))
    | (go_at_call 21; refine (split_joined A9 _ c9 n'' ls _ m9 h''.len (by rw [joined_length, h''.len]; omega)).mono ?_; rintro e w10 ⟨v10, rfl, ⟨A10, c10, rfl, m10⟩, b10⟩)
    | (go_at_call 23; refine (sameAll_yes A10 A'' _ c10 cap'' _ _ m10 ((((h6''.drewN k7).below b8).below b9).below b10)).mono ?_; rintro e w11 ⟨rfl, k11, rfl⟩)
    )
  go_ret
  have q7 := below_drewN hb6 k7
  have q8 := q7.trans (b8.mono q7.size)
  have q9 := q8.trans (b9.mono q8.size)
  exact ⟨rfl, below_drewN (q9.trans (b10.mono q9.size)) _⟩

theorem back_walk (A A' A'' : Option Addr) (n cap n' cap' n'' cap'' : Nat) (l l' : List UInt8) (ls : List (List UInt8)) (x : Int) (w : World) (h : BS w A n cap l) (h' : BS w A' n' cap' l') (h'' : BB w A'' n'' cap'' ls) (hn : n ≤ 1048576) (hn' : n' ≤ 1048576) (hls : lenSum ls + n'' ≤ 1048576)
    (hx : (Lit.int .i64 x).wf = true) :
    Calls Try.prog 7 #[.slice A n cap, .slice A' n' cap', .int .i64 x, .slice A'' n'' cap''] w fun e w' => e = .returned (.bool true) ∧ Below w.heap.size w w' := by
  have hx : -9223372036854775808 ≤ x ∧ x ≤ 9223372036854775807 := by simpa [Lit.wf, IntKind.min, IntKind.max, IntKind.signed, IntKind.bits] using hx
  by_cases hneg : x < 0
  · have hm : -((x + 1).tmod ((n : Int) + 8)) = (-(x + 1)) % ((n : Int) + 8) := by
      rw [← Int.neg_tmod, Int.tmod_eq_emod_of_nonneg (by omega)]
    have h1 := Int.emod_nonneg (-(x + 1)) (show (n : Int) + 8 ≠ 0 by omega)
    have h2 := Int.emod_lt_of_pos (-(x + 1)) (show 0 < (n : Int) + 8 by omega)
    exact back_neg A A' A'' n cap n' cap' n'' cap'' l l' ls x w h h' h'' hn hn' hls hx.1 hx.2 hneg ((-(x + 1)) % ((n : Int) + 8)).toNat (by omega) (by rw [hm]; omega)
  · have hm : x.tmod ((n : Int) + 8) = x % ((n : Int) + 8) := Int.tmod_eq_emod_of_nonneg (by omega)
    have h1 := Int.emod_nonneg x (show (n : Int) + 8 ≠ 0 by omega)
    have h2 := Int.emod_lt_of_pos x (show 0 < (n : Int) + 8 by omega)
    exact back_pos A A' A'' n cap n' cap' n'' cap'' l l' ls x w h h' h'' hn hn' hls hx.1 hx.2 (by omega) (x % ((n : Int) + 8)).toNat (by omega) (by rw [hm]; omega)
end Go.Proofs.Ytgcglnohpmpnkaa
