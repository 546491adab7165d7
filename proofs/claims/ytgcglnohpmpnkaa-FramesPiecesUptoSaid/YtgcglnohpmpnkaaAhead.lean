/- The walk of FramesAhead. -/
import Derived.Test.YtgcglnohpmpnkaaStreams
import Derived.Test.YtgcglnohpmpnkaaBack
namespace Go.Proofs.Ytgcglnohpmpnkaa
open Go.RowKit

theorem spl_total : ∀ (N : Nat) (l : List UInt8), l.length ≤ N → ∃ ls a e, Spl l ls a e
  | 0, l, h => by
    have : l = [] := List.length_eq_zero_iff.1 (by omega)
    subst this
    exact ⟨_, _, _, .nil⟩
  | N + 1, l, h => by
    by_cases h0 : l = []
    · subst h0; exact ⟨_, _, _, .nil⟩
    · by_cases he : nextE l = 0
      · obtain ⟨ls, a, e, hs⟩ := spl_total N (l.drop (num4 l + 8)) (by rw [List.length_drop]; omega)
        exact ⟨_, _, _, .more l ls a e he hs⟩
      · exact ⟨_, _, _, .bad l h0 he⟩
theorem BB.upto {w : World} {A : Option Addr} {n cap : Nat} {ls : List (List UInt8)} (h : BB w A n cap ls) (k : Nat) (hk : k ≤ n) : BB w A k cap (ls.take k) := by
  have h1 := h.len
  have h2 := h.le
  refine ⟨by rw [List.length_take]; omega, by omega, h.cap63, h.nil, fun j hj => ?_⟩
  obtain ⟨b, o, hA, A', n', c', hc, hb⟩ := h.at_ j (by omega)
  refine ⟨b, o, hA, A', n', c', hc, ?_⟩
  rw [List.getD_eq_getElem?_getD, List.getElem?_take, if_pos hj, ← List.getD_eq_getElem?_getD]
  exact hb
/-- Split of loads that were put together, and what stands behind. -/
theorem split_ahead (A : Option Addr) (n cap m J : Nat) (ls xs : List (List UInt8)) (r : List UInt8) (a e : Nat) (w : World) (h : BS w A n cap (joined ls ++ r)) (hsp : Spl (joined ls ++ r) (ls ++ xs) ((joined ls).length + a) e) (hJ : (joined ls).length = J) (hm : ls.length + xs.length = m) (hn : n ≤ 16777216) :
    Calls Try.prog 21 #[.slice A n cap] w fun en w' => ∃ v, en = .returned (.tuple #[v, .int .i64 ((J : Int) + a), .int .i64 e]) ∧ (∃ A' c', v = .slice A' m c' ∧ BB w' A' m c' (ls ++ xs)) ∧ Below w.heap.size w w' := by
  refine (split_any A n cap _ w h hn).mono ?_
  rintro en w' ⟨v, ys, a', er, rfl, own1, rows1, sp1, b1⟩
  obtain ⟨ex, rfl, rfl⟩ := sp1.det hsp
  subst hJ
  exact ⟨_, by rw [Int.natCast_add], coll_bb2 own1 rows1 ex (by rw [List.length_append]; exact hm), b1⟩

set_option maxHeartbeats 4000000 in
set_option maxRecDepth 100000 in
theorem ahead_walk (A A' A'' : Option Addr) (n cap n' cap' n'' cap'' : Nat) (ls : List (List UInt8)) (l' : List UInt8) (w : World) (h : BB w A n cap ls) (h' : BS w A' n' cap' l') (hls : lenSum ls + n ≤ 1048576) (hn' : n' ≤ 1048576) :
    Calls Try.prog 9 #[.slice A n cap, .slice A' n' cap', .slice A'' n'' cap''] w fun e w' => e = .returned (.bool true) ∧ Below w.heap.size w w' := by
  have HL := Lib.hid h.len
  have HL' := Lib.hid h'.rb.1
  have HJ := Lib.hid (show (joined ls).length ≤ 9437184 by rw [joined_length, h.len]; omega)
  obtain ⟨xs, a, e, hsp⟩ := spl_total _ l' (Nat.le_refl _)
  have hale := hsp.le
  rw [h'.rb.1] at hale
  have he4 := hsp.er_cases
  have hspl := spl_joined hsp ls fun l hl => by have := mem_le_sum hl; omega
  go_enter Try.func9, Try.ntmps9
  go_wp2_with (go_at_call 11; refine (live_any _).mono ?_; rintro e w1 ⟨rfl, b1⟩)
  refine (join_ok A n cap ls w1 (h.below b1) hls).mono ?_
  rintro e w2 ⟨v2, rfl, own2, b2⟩
  obtain ⟨A2, c2, rfl, m2⟩ := own_bs own2 (by have := HJ.out; omega)
  have s01 := b1.size
  have s12 := b2.size
  have hJ := HJ.out
  generalize hJn : (joined ls).length = J at *
  go_wp2_with (first
    | (go_at_call 17; refine (no_any _ _).mono ?_; rintro e w4 ⟨rfl, rfl⟩)
    | (go_at_call 13; refine (own_any A2 J c2 (joined ls) _ m2).mono ?_; rintro e w3 ⟨v3, rfl, own3, b3⟩; obtain ⟨A3, c3, rfl, m3⟩ := own_bs own3 (by omega); have hb3 := (b1.trans (b2.mono s01)).trans (b3.mono (Nat.le_trans s01 s12)); have hb' := h'.below hb3)
    | (at_builtin; refine wpList_app sB rfl (.tmp 31) (.tmp 32) rfl w2.heap.size _ J _ rfl own3 A' n' cap' _ rfl hb'.rb.rd (fun _ => hb'.nil) (bl_one _) (by unfold maxLen; omega) (by omega) b3.size ?_; intro v5 w5 own5 g5 at5; rw [← bl_append] at own5; obtain ⟨A5, c5, rfl, m5⟩ := own_bs own5 (by omega); clear at5; have b5 := below_app b3 g5 own3 (Nat.le_refl _) b3.size; clear g5)
    )
  refine (split_ahead A5 (J + n') c5 (n + xs.length) J ls xs l' a e w5 m5 (by rw [hJn]; exact hspl) hJn (by rw [HL.out]) (by omega)).mono ?_
  rintro en w6 ⟨v6, rfl, ⟨A6, c6, rfl, m6⟩, b6⟩
  have hb6 := ((b1.trans (b2.mono s01)).trans (b5.mono (Nat.le_trans s01 s12))).trans (b6.mono (by have := b5.size; omega))
  have u6 := m6.upto n (by omega)
  have hc6 := m6.le
  rw [List.take_left' HL.out] at u6
  have h6 := h.below hb6
  have hx63 : n + xs.length ≤ 9223372036854775807 := Nat.le_trans m6.le m6.cap63
  go_wp2_with (first
    | (go_at_call 23; refine (sameAll_yes A6 A n c6 cap _ _ u6 h6).mono ?_; rintro e w8 ⟨rfl, k8, rfl⟩)
    )
  have hgA : ((w6.drewN k8).alloc (.cells #[.slice none 0 0, .int .i64 0] 54)).heap[w6.heap.size]? = some (.cells #[.slice none 0 0, .int .i64 (0 : Nat)] 54 (0, 0)) := heap_alloc_new (w6.drewN k8) _
  have b6A : Below w6.heap.size w6 ((w6.drewN k8).alloc (.cells #[.slice none 0 0, .int .i64 0] 54)) := (below_drewN (Below.refl _ w6) k8).alloc (Nat.le_refl _) _
  have m5A := (m5.below b6).below b6A
  generalize (w6.drewN k8).alloc (.cells #[.slice none 0 0, .int .i64 0] 54) = wA at *
  refine (push_ok w6.heap.size none A5 0 0 (J + n') c5 [] _ wA hgA (BS.nil_ _) m5A (by omega)).mono ?_
  rintro en w7 ⟨v7, ys, a', er, b0, A7, n7, c7, rfl, sp7, hb0, hb0', own7, rows7, hA7, _, hs7, ch7⟩
  rw [List.nil_append] at sp7 hA7
  obtain ⟨ey, rfl, rfl⟩ := sp7.det hspl
  obtain ⟨A8, c8, rfl, m8⟩ := coll_bb2 (N := n + xs.length) own7 rows7 ey (by rw [List.length_append, HL.out])
  have b67 : Below w6.heap.size w6 w7 := b6A.trans (ch7.below b6A.size (by intro q hq; omega))
  have m67 := m6.below b67
  have hb7 := hb6.trans (b67.mono (by have := hb6.size; omega))
  have hn7 := hA7.rb.1
  have hW := waits_ok w6.heap.size A7 n7 c7 _ w7 hs7
  clear hgA m5A own7 rows7 sp7 hA7 own2 own3 own5 m2 m3 m5 u6 h6 m6
  clear hW
  rcases he4 with rfl | rfl | rfl | rfl
  · have hp0 : pe 0 = 0 := rfl
    rw [hp0] at hs7 ⊢
    have hn7' : n7 = n' - a := by
      rw [← hn7, pw, if_pos hp0, List.length_drop, List.length_append, hJn, HL'.out]; omega
    clear hn7
    subst hn7'
    have hlea := hale.1
    go_wp2_with (first
      | (go_at_call 23; refine (sameAll_yes A8 A6 (n + xs.length) c8 c6 _ _ m8 m67).mono ?_; rintro e w9 ⟨rfl, k9, rfl⟩)
      | (go_at_call 17; refine (no_any _ _).mono ?_; rintro e w10 ⟨rfl, rfl⟩)
      | (go_at_call 27; refine (waits_ok w6.heap.size A7 (n' - a) c7 _ (w7.drewN _) hs7).mono ?_; rintro e w11 ⟨rfl, rfl⟩))
    go_ret
    exact ⟨by simp; omega, below_drewN hb7 _⟩
  · rw [show pe 3 = 3 from rfl] at hs7 ⊢
    have hn7' : n7 = 0 := by rw [← hn7, pw, if_neg (by decide)]; rfl
    clear hn7
    subst hn7'
    go_wp2_with (first
      | (go_at_call 23; refine (sameAll_yes A8 A6 (n + xs.length) c8 c6 _ _ m8 m67).mono ?_; rintro e w9 ⟨rfl, k9, rfl⟩)
      | (go_at_call 17; refine (no_any _ _).mono ?_; rintro e w10 ⟨rfl, rfl⟩)
      | (go_at_call 26; refine (push_broken w6.heap.size A7 A'' 0 c7 n'' cap'' 3 (w7.drewN _) hs7 (by decide)).mono ?_; rintro e w11 ⟨rfl, k11, rfl⟩)
      | (go_at_call 27; refine (waits_ok w6.heap.size A7 0 c7 _ (w7.drewN _) hs7).mono ?_; rintro e w12 ⟨rfl, rfl⟩))
    go_ret
    exact ⟨rfl, below_drewN hb7 _⟩
  · rw [show pe 40 = 40 from rfl] at hs7 ⊢
    have hn7' : n7 = 0 := by rw [← hn7, pw, if_neg (by decide)]; rfl
    clear hn7
    subst hn7'
    go_wp2_with (first
      | (go_at_call 23; refine (sameAll_yes A8 A6 (n + xs.length) c8 c6 _ _ m8 m67).mono ?_; rintro e w9 ⟨rfl, k9, rfl⟩)
      | (go_at_call 17; refine (no_any _ _).mono ?_; rintro e w10 ⟨rfl, rfl⟩)
      | (go_at_call 26; refine (push_broken w6.heap.size A7 A'' 0 c7 n'' cap'' 40 (w7.drewN _) hs7 (by decide)).mono ?_; rintro e w11 ⟨rfl, k11, rfl⟩)
      | (go_at_call 27; refine (waits_ok w6.heap.size A7 0 c7 _ (w7.drewN _) hs7).mono ?_; rintro e w12 ⟨rfl, rfl⟩))
    go_ret
    exact ⟨rfl, below_drewN hb7 _⟩
  · have hp0 : pe 41 = 0 := rfl
    rw [hp0] at hs7 ⊢
    have hn7' : n7 = n' - a := by
      rw [← hn7, pw, if_pos hp0, List.length_drop, List.length_append, hJn, HL'.out]; omega
    clear hn7
    subst hn7'
    have hlea := hale.1
    go_wp2_with (first
      | (go_at_call 23; refine (sameAll_yes A8 A6 (n + xs.length) c8 c6 _ _ m8 m67).mono ?_; rintro e w9 ⟨rfl, k9, rfl⟩)
      | (go_at_call 17; refine (no_any _ _).mono ?_; rintro e w10 ⟨rfl, rfl⟩)
      | (go_at_call 27; refine (waits_ok w6.heap.size A7 (n' - a) c7 _ (w7.drewN _) hs7).mono ?_; rintro e w11 ⟨rfl, rfl⟩))
    go_ret
    exact ⟨by simp; omega, below_drewN hb7 _⟩
end Go.Proofs.Ytgcglnohpmpnkaa
