/- The walk of FramesPieces. -/
import Derived.Test.YtgcglnohpmpnkaaW18
namespace Go.Proofs.Ytgcglnohpmpnkaa
open Go.RowKit

set_option maxHeartbeats 4000000 in
set_option maxRecDepth 100000 in
theorem pieces_walk (A A' A'' : Option Addr) (n cap n' cap' n'' cap'' : Nat) (ls : List (List UInt8)) (l' : List UInt8) (zs : List Int) (w : World) (h : BB w A n cap ls) (h' : BS w A' n' cap' l') (h'' : IS w A'' n'' zs) (hls : lenSum ls + n ≤ 1048576) (hn' : n' ≤ 1048576) :
    Calls Try.prog 10 #[.slice A n cap, .slice A' n' cap', .slice A'' n'' cap''] w fun e w' => e = .returned (.bool true) ∧ Below w.heap.size w w' := by
  have HL := Lib.hid h.len
  have HL' := Lib.hid h'.rb.1
  have HJ := Lib.hid (show (joined ls).length ≤ 9437184 by rw [joined_length, h.len]; omega)
  obtain ⟨xs, a, e, hsp⟩ := spl_total _ l' (Nat.le_refl _)
  have hale := hsp.le
  rw [h'.rb.1] at hale
  have he4 := hsp.er_cases
  have hspl := spl_joined hsp ls fun l hl => by have := mem_le_sum hl; omega
  go_enter Try.func10, Try.ntmps10
  go_wp2_with (go_at_call 11; refine (live_any _).mono ?_; rintro e w1 ⟨rfl, b1⟩)
  refine (join_ok A n cap ls w1 (h.below b1) hls).mono ?_
  rintro e w2 ⟨v2, rfl, own2, b2⟩
  obtain ⟨A2, c2, rfl, m2⟩ := own_bs own2 (by have := HJ.out; omega)
  have s01 := b1.size
  have s12 := b2.size
  have hJ := HJ.out
  generalize hJn : (joined ls).length = J at *
  go_wp2_with (first
    | (go_at_call 17; refine (no_any _ _).mono ?_; rintro e w4 ⟨rfl, rfl⟩)
    | (go_at_call 13; refine (own_any A2 J c2 (joined ls) _ m2).mono ?_; rintro e w3 ⟨v3, rfl, own3, b3⟩; obtain ⟨A3, c3, rfl, m3⟩ := own_bs own3 (by omega); have hb3 := (b1.trans (b2.mono s01)).trans (b3.mono (Nat.le_trans s01 s12)); have hb' := h'.below hb3)
    | (at_builtin; refine wpList_app sB rfl (.tmp 32) (.tmp 33) rfl w2.heap.size _ J _ rfl own3 A' n' cap' _ rfl hb'.rb.rd (fun _ => hb'.nil) (bl_one _) (by unfold maxLen; omega) (by omega) b3.size ?_; intro v5 w5 own5 g5 at5; rw [← bl_append] at own5; obtain ⟨A5, c5, rfl, m5⟩ := own_bs own5 (by omega); clear at5; have b5 := below_app b3 g5 own3 (Nat.le_refl _) b3.size; clear g5)
    )
  refine (split_ahead A5 (J + n') c5 (n + xs.length) J ls xs l' a e w5 m5 (by rw [hJn]; exact hspl) hJn (by rw [HL.out]) (by omega)).mono ?_
  rintro en w6 ⟨v6, rfl, ⟨A6, c6, rfl, m6⟩, b6⟩
  have hb6 := ((b1.trans (b2.mono s01)).trans (b5.mono (Nat.le_trans s01 s12))).trans (b6.mono (by have := b5.size; omega))
  have hx63 : n + xs.length ≤ 9223372036854775807 := Nat.le_trans m6.le m6.cap63
  obtain ⟨B, hB⟩ : ∃ B, B = joined ls ++ l' := ⟨_, rfl⟩
  have hBl : B.length = J + n' := by rw [hB, List.length_append, hJn, HL'.out]
  have m6b := m5.below b6
  rw [← hB] at hspl m6b
  have hst0 : (w6.alloc (.cells #[.slice none 0 0, .int .i64 0] 54)).heap[w6.heap.size]? = some (.cells #[.slice none 0 0, .int .i64 (0 : Nat)] 54 (0, 0)) := heap_alloc_new w6 _
  clear own2 own3 own5 m2 m3 m5 hb'
  rcases he4 with rfl | rfl | rfl | rfl
  · have hspl' := hspl
    go_wp2_with (first
    | (go_at_call 17; refine (no_any _ _).mono ?_; rintro e w4 ⟨rfl, rfl⟩))
    go_loopw [12, 13, 14] (fun gv pv iv wr => ∃ p i : Nat, pv = .int .i64 p ∧ iv = .int .i64 i ∧ p ≤ J + n' ∧ (i ≤ n'' ∨ p = J + n') ∧ PInv B w6.heap.size w6 gv p wr ∧ i ≤ n'' + 1 ∧ w6.heap.size < wr.heap.size) (fun _ p i _ => (n'' - (intOf i).toNat) + (J + n' - (intOf p).toNat))
    case atStart => exact ⟨0, 0, rfl, rfl, by omega, by omega, ⟨[], 0, 0, none, 0, 0, .nil, rfl, World.ownsRow_nil _ _ _ _, (fun x hx => by cases hx), BS.nil_ _, hst0, (Below.refl _ _).alloc (Nat.le_refl _) _⟩, by omega, by simp⟩
    case round =>
      obtain ⟨p, i, rfl, rfl, hp, hip, ⟨ys, a', e', A7, n7, c7, S, hpe, own7, rows7, bb, st7, bel7⟩, hi1, hgw⟩ := hrel
      by_cases hpl : p < J + n'
      · have hin : i ≤ n'' := by omega
        have hm := h''.max
        have m5w := m6b.below bel7
        have hc5 := m5w.le
        by_cases hic : i < n''
        · obtain ⟨b, o, rfl, hcz, hz1, hz2⟩ := h''.at_ i hic
          have hcw := ((hb6.trans (bel7.mono (by have := hb6.size; omega))).cell (p := ⟨b, o + i, none⟩) (World.block_lt_of_cell? w _ hcz)).trans hcz
          generalize zs.getD i 0 = z at *
          by_cases hz0 : 0 ≤ z
          · obtain ⟨zn, rfl⟩ := Int.eq_ofNat_of_zero_le hz0
            by_cases hzl : zn < J + n' - p
            · have mp := (m5w.sub p (p + zn) (by omega) (by omega))
              have hs := run_sub_lh sB A5 (J + n') c5 (p : Int) ((p : Int) + zn) p (p + zn) rfl (by rw [Int.natCast_add]) (by omega) (by omega)
              generalize subA A5 c5 p = Ap at *
              have hnp := bb.rb.1
              obtain ⟨q, hq⟩ : ∃ q, q = p + zn - p := ⟨_, rfl⟩
              obtain ⟨cq, hcq⟩ : ∃ cq, cq = c5 - p := ⟨_, rfl⟩
              rw [← hq, ← hcq] at mp hs
              have hpo := fun en w8 => pieces_post (k := p + zn) (en := en) (w8 := w8) hspl' (by omega) (by omega) (by omega) (by omega) S own7 rows7 hgw rfl bel7
              rw [← hq] at hpo
              have hnq : n7 + q ≤ 16777216 := by rw [List.length_drop, List.length_take] at hnp; omega
              clear S rows7 own7
              have HQ := Lib.hid hq
              have HCQ := Lib.hid hcq
              clear hq hcq
              go_wp2_with (first
                | (go_at_call 26; refine (push_ok w6.heap.size A7 Ap n7 c7 q cq _ _ wr st7 bb mp hnq).mono ?_; intro en w8 hpost; obtain ⟨Av, cv, m8, news, rfl, rd8, z8, one8, own8, hsz8, hw8, fin8⟩ := hpo en w8 hpost; clear hpost hpo)
                | (go_at_call 17; refine (no_any _ _).mono ?_; rintro e w4 ⟨rfl, rfl⟩)
                | (at_builtin; refine wpList_app sBB rfl (.tmp 99) (.tmp 100) rfl (w6.heap.size + 1) _ ys.length _ rfl own8 Av m8 cv _ rfl rd8 z8 one8 (by unfold maxLen; omega) (by omega) hw8 ?_; intro v9 w9 own9 g9 at9; have P9 := fin8 v9 w9 own9 g9; have hs9 := g9.size; clear own9 g9 at9 fin8))
              go_roundw
              case rel => exact ⟨p + zn, i + 1, by go_num, by go_num, by omega, by omega, P9, by omega⟩
              case measure => simp [intOf]; omega
            · have mp := (m5w.sub p (J + n') (by omega) (by omega))
              have hs := run_sub_lh sB A5 (J + n') c5 (p : Int) ((J : Int) + n') p (J + n') rfl (by rw [Int.natCast_add]) (by omega) (by omega)
              generalize subA A5 c5 p = Ap at *
              have hnp := bb.rb.1
              obtain ⟨q, hq⟩ : ∃ q, q = J + n' - p := ⟨_, rfl⟩
              obtain ⟨cq, hcq⟩ : ∃ cq, cq = c5 - p := ⟨_, rfl⟩
              rw [← hq, ← hcq] at mp hs
              have hpo := fun en w8 => pieces_post (k := J + n') (en := en) (w8 := w8) hspl' (by omega) (by omega) (by omega) (by omega) S own7 rows7 hgw rfl bel7
              rw [← hq] at hpo
              have hnq : n7 + q ≤ 16777216 := by rw [List.length_drop, List.length_take] at hnp; omega
              clear S rows7 own7
              have HQ := Lib.hid hq
              have HCQ := Lib.hid hcq
              clear hq hcq
              go_wp2_with (first
                | (go_at_call 26; refine (push_ok w6.heap.size A7 Ap n7 c7 q cq _ _ wr st7 bb mp hnq).mono ?_; intro en w8 hpost; obtain ⟨Av, cv, m8, news, rfl, rd8, z8, one8, own8, hsz8, hw8, fin8⟩ := hpo en w8 hpost; clear hpost hpo)
                | (go_at_call 17; refine (no_any _ _).mono ?_; rintro e w4 ⟨rfl, rfl⟩)
                | (at_builtin; refine wpList_app sBB rfl (.tmp 99) (.tmp 100) rfl (w6.heap.size + 1) _ ys.length _ rfl own8 Av m8 cv _ rfl rd8 z8 one8 (by unfold maxLen; omega) (by omega) hw8 ?_; intro v9 w9 own9 g9 at9; have P9 := fin8 v9 w9 own9 g9; have hs9 := g9.size; clear own9 g9 at9 fin8))
              go_roundw
              case rel => exact ⟨J + n', i + 1, by go_num, by go_num, by omega, by omega, P9, by omega⟩
              case measure => simp [intOf]; omega
          · have mp := (m5w.sub p (J + n') (by omega) (by omega))
            have hs := run_sub_lh sB A5 (J + n') c5 (p : Int) ((J : Int) + n') p (J + n') rfl (by rw [Int.natCast_add]) (by omega) (by omega)
            generalize subA A5 c5 p = Ap at *
            have hnp := bb.rb.1
            obtain ⟨q, hq⟩ : ∃ q, q = J + n' - p := ⟨_, rfl⟩
            obtain ⟨cq, hcq⟩ : ∃ cq, cq = c5 - p := ⟨_, rfl⟩
            rw [← hq, ← hcq] at mp hs
            have hpo := fun en w8 => pieces_post (k := J + n') (en := en) (w8 := w8) hspl' (by omega) (by omega) (by omega) (by omega) S own7 rows7 hgw rfl bel7
            rw [← hq] at hpo
            have hnq : n7 + q ≤ 16777216 := by rw [List.length_drop, List.length_take] at hnp; omega
            clear S rows7 own7
            have HQ := Lib.hid hq
            have HCQ := Lib.hid hcq
            clear hq hcq
            go_wp2_with (first
              | (go_at_call 26; refine (push_ok w6.heap.size A7 Ap n7 c7 q cq _ _ wr st7 bb mp hnq).mono ?_; intro en w8 hpost; obtain ⟨Av, cv, m8, news, rfl, rd8, z8, one8, own8, hsz8, hw8, fin8⟩ := hpo en w8 hpost; clear hpost hpo)
              | (go_at_call 17; refine (no_any _ _).mono ?_; rintro e w4 ⟨rfl, rfl⟩)
              | (at_builtin; refine wpList_app sBB rfl (.tmp 99) (.tmp 100) rfl (w6.heap.size + 1) _ ys.length _ rfl own8 Av m8 cv _ rfl rd8 z8 one8 (by unfold maxLen; omega) (by omega) hw8 ?_; intro v9 w9 own9 g9 at9; have P9 := fin8 v9 w9 own9 g9; have hs9 := g9.size; clear own9 g9 at9 fin8))
            go_roundw
            case rel => exact ⟨J + n', i + 1, by go_num, by go_num, by omega, by omega, P9, by omega⟩
            case measure => simp [intOf]; omega
        · have mp := (m5w.sub p (J + n') (by omega) (by omega))
          have hs := run_sub_lh sB A5 (J + n') c5 (p : Int) ((J : Int) + n') p (J + n') rfl (by rw [Int.natCast_add]) (by omega) (by omega)
          generalize subA A5 c5 p = Ap at *
          have hnp := bb.rb.1
          obtain ⟨q, hq⟩ : ∃ q, q = J + n' - p := ⟨_, rfl⟩
          obtain ⟨cq, hcq⟩ : ∃ cq, cq = c5 - p := ⟨_, rfl⟩
          rw [← hq, ← hcq] at mp hs
          have hpo := fun en w8 => pieces_post (k := J + n') (en := en) (w8 := w8) hspl' (by omega) (by omega) (by omega) (by omega) S own7 rows7 hgw rfl bel7
          rw [← hq] at hpo
          have hnq : n7 + q ≤ 16777216 := by rw [List.length_drop, List.length_take] at hnp; omega
          clear S rows7 own7
          have HQ := Lib.hid hq
          have HCQ := Lib.hid hcq
          clear hq hcq
          go_wp2_with (first
            | (go_at_call 26; refine (push_ok w6.heap.size A7 Ap n7 c7 q cq _ _ wr st7 bb mp hnq).mono ?_; intro en w8 hpost; obtain ⟨Av, cv, m8, news, rfl, rd8, z8, one8, own8, hsz8, hw8, fin8⟩ := hpo en w8 hpost; clear hpost hpo)
            | (go_at_call 17; refine (no_any _ _).mono ?_; rintro e w4 ⟨rfl, rfl⟩)
            | (at_builtin; refine wpList_app sBB rfl (.tmp 99) (.tmp 100) rfl (w6.heap.size + 1) _ ys.length _ rfl own8 Av m8 cv _ rfl rd8 z8 one8 (by unfold maxLen; omega) (by omega) hw8 ?_; intro v9 w9 own9 g9 at9; have P9 := fin8 v9 w9 own9 g9; have hs9 := g9.size; clear own9 g9 at9 fin8))
          go_roundw
          case rel => exact ⟨J + n', i + 1, by go_num, by go_num, by omega, by omega, P9, by omega⟩
          case measure => simp [intOf]; omega
      · obtain rfl : p = J + n' := by omega
        have hBt : B.take (J + n') = B := List.take_of_length_le (by omega)
        rw [hBt] at S bb
        obtain ⟨ey, rfl, rfl⟩ := S.det hspl'
        obtain ⟨A9, c9, rfl, m9⟩ := coll_bb2 (N := n + xs.length) own7 rows7 ey (by rw [List.length_append, HL.out])
        have hn7 : n7 = n' - a := by rw [← bb.rb.1, List.length_drop]; omega
        subst hn7
        have hlea := hale.1
        have m69 := m6.below bel7
        have hb9 := hb6.trans (bel7.mono hb6.size)
        go_wp2_with (first
          | (go_at_call 23; refine (sameAll_yes A9 A6 (n + xs.length) c9 c6 _ _ m9 m69).mono ?_; rintro e w9 ⟨rfl, k9, rfl⟩)
          | (go_at_call 27; refine (waits_ok w6.heap.size A7 (n' - a) c7 _ (wr.drewN _) st7).mono ?_; rintro e w11 ⟨rfl, rfl⟩))
        go_ret
        exact ⟨by simp; omega, below_drewN hb9 _⟩
  · go_wp2_with (first
    | (go_at_call 17; refine (no_any _ _).mono ?_; rintro e w4 ⟨rfl, rfl⟩))
    go_ret
    exact ⟨rfl, hb6⟩
  · go_wp2_with (first
    | (go_at_call 17; refine (no_any _ _).mono ?_; rintro e w4 ⟨rfl, rfl⟩))
    go_ret
    exact ⟨rfl, hb6⟩
  · have hspl' := hspl
    go_wp2_with (first
    | (go_at_call 17; refine (no_any _ _).mono ?_; rintro e w4 ⟨rfl, rfl⟩))
    go_loopw [12, 13, 14] (fun gv pv iv wr => ∃ p i : Nat, pv = .int .i64 p ∧ iv = .int .i64 i ∧ p ≤ J + n' ∧ (i ≤ n'' ∨ p = J + n') ∧ PInv B w6.heap.size w6 gv p wr ∧ i ≤ n'' + 1 ∧ w6.heap.size < wr.heap.size) (fun _ p i _ => (n'' - (intOf i).toNat) + (J + n' - (intOf p).toNat))
    case atStart => exact ⟨0, 0, rfl, rfl, by omega, by omega, ⟨[], 0, 0, none, 0, 0, .nil, rfl, World.ownsRow_nil _ _ _ _, (fun x hx => by cases hx), BS.nil_ _, hst0, (Below.refl _ _).alloc (Nat.le_refl _) _⟩, by omega, by simp⟩
    case round =>
      obtain ⟨p, i, rfl, rfl, hp, hip, ⟨ys, a', e', A7, n7, c7, S, hpe, own7, rows7, bb, st7, bel7⟩, hi1, hgw⟩ := hrel
      by_cases hpl : p < J + n'
      · have hin : i ≤ n'' := by omega
        have hm := h''.max
        have m5w := m6b.below bel7
        have hc5 := m5w.le
        by_cases hic : i < n''
        · obtain ⟨b, o, rfl, hcz, hz1, hz2⟩ := h''.at_ i hic
          have hcw := ((hb6.trans (bel7.mono (by have := hb6.size; omega))).cell (p := ⟨b, o + i, none⟩) (World.block_lt_of_cell? w _ hcz)).trans hcz
          generalize zs.getD i 0 = z at *
          by_cases hz0 : 0 ≤ z
          · obtain ⟨zn, rfl⟩ := Int.eq_ofNat_of_zero_le hz0
            by_cases hzl : zn < J + n' - p
            · have mp := (m5w.sub p (p + zn) (by omega) (by omega))
              have hs := run_sub_lh sB A5 (J + n') c5 (p : Int) ((p : Int) + zn) p (p + zn) rfl (by rw [Int.natCast_add]) (by omega) (by omega)
              generalize subA A5 c5 p = Ap at *
              have hnp := bb.rb.1
              obtain ⟨q, hq⟩ : ∃ q, q = p + zn - p := ⟨_, rfl⟩
              obtain ⟨cq, hcq⟩ : ∃ cq, cq = c5 - p := ⟨_, rfl⟩
              rw [← hq, ← hcq] at mp hs
              have hpo := fun en w8 => pieces_post (k := p + zn) (en := en) (w8 := w8) hspl' (by omega) (by omega) (by omega) (by omega) S own7 rows7 hgw rfl bel7
              rw [← hq] at hpo
              have hnq : n7 + q ≤ 16777216 := by rw [List.length_drop, List.length_take] at hnp; omega
              clear S rows7 own7
              have HQ := Lib.hid hq
              have HCQ := Lib.hid hcq
              clear hq hcq
              go_wp2_with (first
                | (go_at_call 26; refine (push_ok w6.heap.size A7 Ap n7 c7 q cq _ _ wr st7 bb mp hnq).mono ?_; intro en w8 hpost; obtain ⟨Av, cv, m8, news, rfl, rd8, z8, one8, own8, hsz8, hw8, fin8⟩ := hpo en w8 hpost; clear hpost hpo)
                | (go_at_call 17; refine (no_any _ _).mono ?_; rintro e w4 ⟨rfl, rfl⟩)
                | (at_builtin; refine wpList_app sBB rfl (.tmp 99) (.tmp 100) rfl (w6.heap.size + 1) _ ys.length _ rfl own8 Av m8 cv _ rfl rd8 z8 one8 (by unfold maxLen; omega) (by omega) hw8 ?_; intro v9 w9 own9 g9 at9; have P9 := fin8 v9 w9 own9 g9; have hs9 := g9.size; clear own9 g9 at9 fin8))
              go_roundw
              case rel => exact ⟨p + zn, i + 1, by go_num, by go_num, by omega, by omega, P9, by omega⟩
              case measure => simp [intOf]; omega
            · have mp := (m5w.sub p (J + n') (by omega) (by omega))
              have hs := run_sub_lh sB A5 (J + n') c5 (p : Int) ((J : Int) + n') p (J + n') rfl (by rw [Int.natCast_add]) (by omega) (by omega)
              generalize subA A5 c5 p = Ap at *
              have hnp := bb.rb.1
              obtain ⟨q, hq⟩ : ∃ q, q = J + n' - p := ⟨_, rfl⟩
              obtain ⟨cq, hcq⟩ : ∃ cq, cq = c5 - p := ⟨_, rfl⟩
              rw [← hq, ← hcq] at mp hs
              have hpo := fun en w8 => pieces_post (k := J + n') (en := en) (w8 := w8) hspl' (by omega) (by omega) (by omega) (by omega) S own7 rows7 hgw rfl bel7
              rw [← hq] at hpo
              have hnq : n7 + q ≤ 16777216 := by rw [List.length_drop, List.length_take] at hnp; omega
              clear S rows7 own7
              have HQ := Lib.hid hq
              have HCQ := Lib.hid hcq
              clear hq hcq
              go_wp2_with (first
                | (go_at_call 26; refine (push_ok w6.heap.size A7 Ap n7 c7 q cq _ _ wr st7 bb mp hnq).mono ?_; intro en w8 hpost; obtain ⟨Av, cv, m8, news, rfl, rd8, z8, one8, own8, hsz8, hw8, fin8⟩ := hpo en w8 hpost; clear hpost hpo)
                | (go_at_call 17; refine (no_any _ _).mono ?_; rintro e w4 ⟨rfl, rfl⟩)
                | (at_builtin; refine wpList_app sBB rfl (.tmp 99) (.tmp 100) rfl (w6.heap.size + 1) _ ys.length _ rfl own8 Av m8 cv _ rfl rd8 z8 one8 (by unfold maxLen; omega) (by omega) hw8 ?_; intro v9 w9 own9 g9 at9; have P9 := fin8 v9 w9 own9 g9; have hs9 := g9.size; clear own9 g9 at9 fin8))
              go_roundw
              case rel => exact ⟨J + n', i + 1, by go_num, by go_num, by omega, by omega, P9, by omega⟩
              case measure => simp [intOf]; omega
          · have mp := (m5w.sub p (J + n') (by omega) (by omega))
            have hs := run_sub_lh sB A5 (J + n') c5 (p : Int) ((J : Int) + n') p (J + n') rfl (by rw [Int.natCast_add]) (by omega) (by omega)
            generalize subA A5 c5 p = Ap at *
            have hnp := bb.rb.1
            obtain ⟨q, hq⟩ : ∃ q, q = J + n' - p := ⟨_, rfl⟩
            obtain ⟨cq, hcq⟩ : ∃ cq, cq = c5 - p := ⟨_, rfl⟩
            rw [← hq, ← hcq] at mp hs
            have hpo := fun en w8 => pieces_post (k := J + n') (en := en) (w8 := w8) hspl' (by omega) (by omega) (by omega) (by omega) S own7 rows7 hgw rfl bel7
            rw [← hq] at hpo
            have hnq : n7 + q ≤ 16777216 := by rw [List.length_drop, List.length_take] at hnp; omega
            clear S rows7 own7
            have HQ := Lib.hid hq
            have HCQ := Lib.hid hcq
            clear hq hcq
            go_wp2_with (first
              | (go_at_call 26; refine (push_ok w6.heap.size A7 Ap n7 c7 q cq _ _ wr st7 bb mp hnq).mono ?_; intro en w8 hpost; obtain ⟨Av, cv, m8, news, rfl, rd8, z8, one8, own8, hsz8, hw8, fin8⟩ := hpo en w8 hpost; clear hpost hpo)
              | (go_at_call 17; refine (no_any _ _).mono ?_; rintro e w4 ⟨rfl, rfl⟩)
              | (at_builtin; refine wpList_app sBB rfl (.tmp 99) (.tmp 100) rfl (w6.heap.size + 1) _ ys.length _ rfl own8 Av m8 cv _ rfl rd8 z8 one8 (by unfold maxLen; omega) (by omega) hw8 ?_; intro v9 w9 own9 g9 at9; have P9 := fin8 v9 w9 own9 g9; have hs9 := g9.size; clear own9 g9 at9 fin8))
            go_roundw
            case rel => exact ⟨J + n', i + 1, by go_num, by go_num, by omega, by omega, P9, by omega⟩
            case measure => simp [intOf]; omega
        · have mp := (m5w.sub p (J + n') (by omega) (by omega))
          have hs := run_sub_lh sB A5 (J + n') c5 (p : Int) ((J : Int) + n') p (J + n') rfl (by rw [Int.natCast_add]) (by omega) (by omega)
          generalize subA A5 c5 p = Ap at *
          have hnp := bb.rb.1
          obtain ⟨q, hq⟩ : ∃ q, q = J + n' - p := ⟨_, rfl⟩
          obtain ⟨cq, hcq⟩ : ∃ cq, cq = c5 - p := ⟨_, rfl⟩
          rw [← hq, ← hcq] at mp hs
          have hpo := fun en w8 => pieces_post (k := J + n') (en := en) (w8 := w8) hspl' (by omega) (by omega) (by omega) (by omega) S own7 rows7 hgw rfl bel7
          rw [← hq] at hpo
          have hnq : n7 + q ≤ 16777216 := by rw [List.length_drop, List.length_take] at hnp; omega
          clear S rows7 own7
          have HQ := Lib.hid hq
          have HCQ := Lib.hid hcq
          clear hq hcq
          go_wp2_with (first
            | (go_at_call 26; refine (push_ok w6.heap.size A7 Ap n7 c7 q cq _ _ wr st7 bb mp hnq).mono ?_; intro en w8 hpost; obtain ⟨Av, cv, m8, news, rfl, rd8, z8, one8, own8, hsz8, hw8, fin8⟩ := hpo en w8 hpost; clear hpost hpo)
            | (go_at_call 17; refine (no_any _ _).mono ?_; rintro e w4 ⟨rfl, rfl⟩)
            | (at_builtin; refine wpList_app sBB rfl (.tmp 99) (.tmp 100) rfl (w6.heap.size + 1) _ ys.length _ rfl own8 Av m8 cv _ rfl rd8 z8 one8 (by unfold maxLen; omega) (by omega) hw8 ?_; intro v9 w9 own9 g9 at9; have P9 := fin8 v9 w9 own9 g9; have hs9 := g9.size; clear own9 g9 at9 fin8))
          go_roundw
          case rel => exact ⟨J + n', i + 1, by go_num, by go_num, by omega, by omega, P9, by omega⟩
          case measure => simp [intOf]; omega
      · obtain rfl : p = J + n' := by omega
        have hBt : B.take (J + n') = B := List.take_of_length_le (by omega)
        rw [hBt] at S bb
        obtain ⟨ey, rfl, rfl⟩ := S.det hspl'
        obtain ⟨A9, c9, rfl, m9⟩ := coll_bb2 (N := n + xs.length) own7 rows7 ey (by rw [List.length_append, HL.out])
        have hn7 : n7 = n' - a := by rw [← bb.rb.1, List.length_drop]; omega
        subst hn7
        have hlea := hale.1
        have m69 := m6.below bel7
        have hb9 := hb6.trans (bel7.mono hb6.size)
        go_wp2_with (first
          | (go_at_call 23; refine (sameAll_yes A9 A6 (n + xs.length) c9 c6 _ _ m9 m69).mono ?_; rintro e w9 ⟨rfl, k9, rfl⟩)
          | (go_at_call 27; refine (waits_ok w6.heap.size A7 (n' - a) c7 _ (wr.drewN _) st7).mono ?_; rintro e w11 ⟨rfl, rfl⟩))
        go_ret
        exact ⟨by simp; omega, below_drewN hb9 _⟩
end Go.Proofs.Ytgcglnohpmpnkaa
