/- The walk of FramesStreams. -/
import Derived.Test.YtgcglnohpmpnkaaW17
namespace Go.Proofs.Ytgcglnohpmpnkaa
open Go.RowKit

set_option maxHeartbeats 4000000 in
set_option maxRecDepth 100000 in
theorem streams_walk (A : Option Addr) (n cap : Nat) (ls : List (List UInt8)) (w : World) (h : BB w A n cap ls) (hls : lenSum ls + n ≤ 1048576) :
    Calls Try.prog 8 #[.slice A n cap] w fun e w' => e = .returned (.bool true) ∧ Below w.heap.size w w' := by
  have HL := Lib.hid h.len
  go_enter Try.func8, Try.ntmps8
  go_wp2_with (first
    | (go_at_call 26; refine (push_none _ _ _ _).mono ?_; rintro e w1 ⟨rfl, rfl⟩)
    | (go_at_call 17; refine (no_any _ _).mono ?_; rintro e w1 ⟨rfl, rfl⟩)
    | (go_at_call 27; refine (waits_none _).mono ?_; rintro e w1 ⟨rfl, rfl⟩)
    | (go_at_call 11; refine (live_any _).mono ?_; rintro e w1 ⟨rfl, b1⟩))
  have hbel1 : Below w.heap.size w w1 := (((Below.refl _ w).alloc (Nat.le_refl _) _).alloc (by simp) _).trans (b1.mono (by simp; omega))
  have hsz1 : w.heap.size + 2 ≤ w1.heap.size := by have := b1.size; simpa using this
  have hg1 : w1.heap[w.heap.size]? = some (.cells #[.slice none 0 0, .int .i64 (0 : Nat)] 54 (0, 0)) := (b1.block _ (by simp; omega)).trans ((Below.heap_alloc _ _ _ (by simp)).trans (heap_alloc_new w _))
  have hg2 : w1.heap[w.heap.size + 1]? = some (.cells #[.slice none 0 0, .int .i64 (0 : Nat)] 57 (0, 0)) := (b1.block _ (by simp)).trans (by
    have := heap_alloc_new (w.alloc (.cells #[.slice none 0 0, .int .i64 0] 54)) (.cells #[.slice none 0 0, .int .i64 0] 57)
    simpa using this)
  clear b1
  go_loopw [8] (fun i wr => ∃ (k er : Nat) (A1 A2 : Option Addr) (m c1 c2 : Nat) (L : List UInt8), k ≤ n ∧ i = .int .i64 k ∧ L.length ≤ lenSum (ls.take k) ∧ BS wr A1 m c1 L ∧ BS wr A2 m c2 L ∧
      wr.heap[w.heap.size]? = some (.cells #[.slice A1 m c1, .int .i64 er] 54 (0, 0)) ∧ wr.heap[w.heap.size + 1]? = some (.cells #[.slice A2 m c2, .int .i64 er] 57 (0, 0)) ∧ Below w.heap.size w wr ∧ w.heap.size + 2 ≤ wr.heap.size) (fun i _ => n - (intOf i).toNat)
  case atStart => exact ⟨0, 0, none, none, 0, 0, 0, [], by omega, rfl, by simp, BS.nil_ _, BS.nil_ _, hg1, hg2, hbel1, hsz1⟩
  case round =>
    obtain ⟨k, er, A1, A2, m, c1, c2, L, hk, rfl, hL, hA1, hA2, hs1, hs2, hbel, hsz⟩ := hrel
    obtain ⟨wo, hwo⟩ : ∃ x, x = wr := ⟨wr, rfl⟩
    subst hwo
    clear hg1 hg2 hbel1 hsz1
    by_cases hlt : k < n
    · obtain ⟨b, o, rfl, Ap, np, cp, hcell, hp⟩ := h.at_ k hlt
      have hcp := (hbel.cell (p := ⟨b, o + k, none⟩) (World.block_lt_of_cell? w _ hcell)).trans hcell
      have hT := Lib.hid (lenSum_take_succ ls k (by rw [HL.out]; exact hlt))
      have hT2 := Lib.hid (lenSum_take_le ls (k + 1))
      have hpl := hp.rb.1
      have hml := hA1.rb.1
      have hmn : m + np ≤ 1048576 := by have := hT.out; have := hT2.out; omega
      generalize ls.getD k [] = lp at *
      have HP := Lib.hid hpl
      have HM := Lib.hid hml
      clear hpl hml
      go_wp2_with fail
      refine (own_any Ap np cp lp _ (hp.below hbel)).mono ?_
      rintro e w2 ⟨v2, rfl, own2, b2⟩
      obtain ⟨A3, c3, rfl, m3⟩ := own_bs own2 (by omega)
      have b2s := b2.size
      have hs1' := (b2.block _ (by omega)).trans hs1
      have hs2' := (b2.block _ (by omega)).trans hs2
      have hA2' := hA2.below b2
      go_wp2_with fail
      refine (push_all w.heap.size A1 A3 m c1 np c3 er L lp w2 hs1' (hA1.below b2) m3 (by omega)).mono ?_
      rintro e w3 ⟨v3, xs, er3, b03, A4, n4, c4, L4, rfl, st3, hb3, hb3', own3, rows3, hA4, hA4b, hs3, ch3⟩
      have ch3s := ch3.size
      have hbel3 : Below w.heap.size w w3 := (hbel.trans (b2.mono (by omega))).trans (ch3.below (by omega) (by intro k hk; omega))
      have hcp3 := (hbel3.cell (p := ⟨b, o + k, none⟩) (World.block_lt_of_cell? w _ hcell)).trans hcell
      have hs2'' := (ch3.block (w.heap.size + 1) (by omega) (by omega)).trans hs2'
      have hs2''3 := hs2''
      go_wp2_with fail
      refine (pushref_all (w.heap.size + 1) A2 Ap m c2 np cp er L lp w3 hs2'' (bs_chg hA2' hs1' (by simp) ch3) (hp.below hbel3) (by omega)).mono ?_
      rintro e w4 ⟨v4, xs', er4, b04, A5, n5, c5, L5, rfl, st4, hb4, hb4', own4, rows4, hA5, hA5b, hs4, ch4⟩
      obtain ⟨ey, eL, ee⟩ := st4.det st3
      subst eL ee
      have ch4s := ch4.size
      have hA4' : BS w4 A4 n4 c4 L5 := bs_chg hA4 hs2''3 (by simp) ch4
      have hs3' := (ch4.block w.heap.size (by omega) (by omega)).trans hs3
      have own3' := own_chg own3 ch4 (fun q hq => by have := own3.lt q hq; omega)
      have rows3' := rows_chg rows3 ch4 (fun q hq => by omega)
      have own2' := own_chg (own_chg own2 ch3 (fun q hq => by have := own2.lt q hq; omega)) ch4 (fun q hq => by have := own2.lt q hq; omega)
      have hLle := st4.le
      have Z2 := Lib.hid own2.lt
      have hbel4 : Below w.heap.size w w4 := hbel3.trans (ch4.below (by omega) (by intro q hq; omega))
      have R3 : Hid (∀ x ∈ xs, ∀ q, x.1.ownBlock = some q → b03 ≤ q ∧ q < w3.heap.size) := Lib.hid (fun x hx q hq => (rows3 x hx).1.lt q hq)
      clear own2 own3 rows3 hA4 hs3 ch3 ch4 st3 st4 hs1' hs2' hs1 hs2 hs2'' hA2' hcp hcp3 hbel3
      go_wp2_with fail
      go_loopw [14] (fun i W => ∃ (j : Nat) (l' : List UInt8), j ≤ np ∧ i = .int .i64 j ∧ W.ownsRow wo.heap.size 5 1 (.slice A3 np c3) np (bl l') ∧ Chg (fun q => (Value.slice A3 np c3).ownBlock = some q) w4 W) (fun i _ => np - (intOf i).toNat)
      case atStart => exact ⟨0, lp, by omega, rfl, own2', Chg.refl _ _⟩
      case round =>
        obtain ⟨j, l', hj, rfl, r2, hch⟩ := hrel
        clear own2'
        by_cases hjl : j < np
        · obtain ⟨g, rfl, hg1, hg2⟩ := own_addr r2 (by omega)
          have hc := own_cell r2 j hjl
          have hf := r2.frozenAt j
          obtain ⟨S1, S2⟩ := set_bytes r2 j (((l'.getD j 0).toNat + 1) % 256) (l'.getD j 0 + 1) (u8_succ _)
          have S5 := hch.trans (Chg.setCell (fun q => (Value.slice (some ⟨g, 0, none⟩) np c3).ownBlock = some q) wr ⟨g, j, none⟩ (.int .u8 (((l'.getD j 0).toNat + 1) % 256)) rfl)
          generalize l'.getD j 0 = u at *
          have H1 := Lib.hid S1
          have H5 := Lib.hid S5
          clear S1 S2 S5 r2 hch own3' rows3' own4 rows4
          go_wp2
          go_roundw
          case rel => exact ⟨j + 1, l'.set j (u + 1), by omega, by go_num, H1.out, H5.out⟩
          case measure => simp [intOf]; omega
        · have hz := Z2.out
          have hchs := hch.size
          have own3'' := own_chg own3' hch (fun q hq hs => by have := own3'.lt q hq; have := hz q hs; omega)
          have rows3'' := rows_chg rows3' hch (fun q hq => by have := hz q hq; omega)
          have own4'' := own_chg own4 hch (fun q hq hs => by have := own4.lt q hq; have := hz q hs; omega)
          have rows4'' := rows_chg rows4 hch (fun q hq => by have := hz q hq; omega)
          have hbel5 : Below w.heap.size w wr := hbel4.trans (hch.below (by omega) (by intro q hq; have := hz q hq; omega))
          have hs35 := (hch.block w.heap.size (by omega) (by intro hq; have := hz _ hq; omega)).trans hs3'
          have hs45 := (hch.block (w.heap.size + 1) (by omega) (by intro hq; have := hz _ hq; omega)).trans hs4
          clear own3' rows3' own4 rows4 hs3' hs4 hbel4
          obtain ⟨A6, c6, rfl, m6⟩ := coll_bb2 (N := xs.length) own3'' rows3'' rfl (by simp)
          obtain ⟨A7, c7, rfl, m7⟩ := coll_bb2 (N := xs.length) own4'' rows4'' ey (by simp)
          have hn5 : n5 = n4 := by rw [← hA5.rb.1, ← hA4'.rb.1]
          subst hn5
          have hd45 := st_cell0 hs45
          go_wp2_with fail
          go_quiet ((first
            | (go_at_call 23; exact q0_draws (sameAll_yes A6 A7 xs.length c6 c7 _ _ (m6.drewN _) (m7.drewN _)))
            | (go_at_call 17; exact q0_same (no_any _ _))
            | (go_at_call 27; exact q0_same (waits_ok w.heap.size A4 n5 c4 _ _ hs35))))
          go_wp2_with fail
          obtain ⟨W6, hW6⟩ : ∃ x, x = wr.drewN nq := ⟨_, rfl⟩
          have own6 : W6.ownsRow b03 22 1 (.slice A6 xs.length c6) xs.length (xs.map (·.1)) := by rw [hW6]; exact own3''
          have rows6 : RowsOf b03 xs W6 := by rw [hW6]; exact rows3''
          have hxl : xs.length ≤ 9223372036854775807 := by obtain ⟨_, _, _, h1, h2, _⟩ := ownsRow_form own6; exact Nat.le_trans h1 h2
          have hch6 : Chg (fun q => b03 ≤ q ∧ q < w3.heap.size) W6 W6 := Chg.refl _ _
          rw [← hW6]
          have hA46 : BS W6 A4 n5 c4 L5 := hA4'.block fun h0 b o s hb => by
            obtain ⟨q1, q2⟩ := hA4b h0 b o s hb
            rw [hW6]
            refine hch.block b (by omega) fun hq => ?_
            have hzb := hz b hq
            rcases q2 with q2 | ⟨rfl, rfl⟩
            · omega
            · have := hA1.at_lt h0 hb; omega
          have hA56 : BS W6 A5 n5 c5 L5 := hA5.block fun h0 b o s hb => by
            obtain ⟨q1, q2⟩ := hA5b h0 b o s hb
            rw [hW6]
            refine hch.block b (by omega) fun hq => ?_
            have hzb := hz b hq
            rcases q2 with q2 | ⟨rfl, rfl⟩
            · omega
            · have := hA2.at_lt h0 hb; omega
          have hA4n : 0 < n5 → ∀ b o s, A4 = some ⟨b, o, s⟩ → ¬ (b03 ≤ b ∧ b < w3.heap.size) := fun h0 b o s hb => by have := (hA4b h0 b o s hb).1; omega
          have hA5n : 0 < n5 → ∀ b o s, A5 = some ⟨b, o, s⟩ → ¬ (b03 ≤ b ∧ b < w3.heap.size) := fun h0 b o s hb => by
            obtain ⟨q1, q2⟩ := hA5b h0 b o s hb
            rcases q2 with q2 | ⟨rfl, rfl⟩
            · omega
            · have := hA2.at_lt h0 hb; omega
          have hs36 : W6.heap[w.heap.size]? = some (.cells #[.slice A4 n5 c4, .int .i64 er4] 54 (0, 0)) := by rw [hW6]; exact hs35
          have hs46 : W6.heap[w.heap.size + 1]? = some (.cells #[.slice A5 n5 c5, .int .i64 er4] 57 (0, 0)) := by rw [hW6]; exact hs45
          have hbel6 : Below w.heap.size w W6 := by rw [hW6]; exact below_drewN hbel5 _
          have hsz6 : w3.heap.size ≤ W6.heap.size := by rw [hW6]; exact Nat.le_trans ch4s hchs
          clear hW6 own3'' rows3'' own4'' rows4'' hs35 hs45 hd45 hbel5 m6 m7 hA4' hA5 hA4b hA5b hch
          go_loopw [15, 16] (fun iv jv W => ∃ (i : Nat) (ys : List (Value × List UInt8)), i ≤ xs.length ∧ iv = .int .i64 i ∧ ys.map (·.1) = xs.map (·.1) ∧ RowsOf b03 ys W ∧ W.ownsRow b03 22 1 (.slice A6 xs.length c6) xs.length (xs.map (·.1)) ∧ Chg (fun q => b03 ≤ q ∧ q < w3.heap.size) W6 W) (fun i _ _ => xs.length - (intOf i).toNat)
          case atStart => exact ⟨0, xs, by omega, rfl, rfl, rows6, own6, hch6⟩
          case round =>
            obtain ⟨i, ys, hi, rfl, hys, hr, ho, hc6⟩ := hrel
            by_cases hil : i < xs.length
            · have hf := rows6 xs[i] (List.getElem_mem hil)
              obtain ⟨Ay, cy, hv, _⟩ := ownsRow_form hf.1
              have hny := hf.2
              have R := R3.out xs[i] (List.getElem_mem hil)
              generalize xs[i].2.length = ny at hv hny
              obtain ⟨gl, rfl, hgl1, hgl2⟩ := own_addr ho (by omega)
              have hcl := ho.cellAt i (by omega)
              rw [List.getElem?_map, List.getElem?_eq_getElem hil, Option.map_some, hv] at hcl
              clear hf
              go_wp2_with fail
              go_loopw [16] (fun jv W => ∃ (j : Nat) (ys : List (Value × List UInt8)), j ≤ ny ∧ jv = .int .i64 j ∧ ys.map (·.1) = xs.map (·.1) ∧ RowsOf b03 ys W ∧ W.ownsRow b03 22 1 (.slice (some ⟨gl, 0, none⟩) xs.length c6) xs.length (xs.map (·.1)) ∧ Chg (fun q => b03 ≤ q ∧ q < w3.heap.size) W6 W) (fun j _ => ny - (intOf j).toNat)
              case atStart => exact ⟨0, ys, by omega, rfl, hys, hr, ho, hc6⟩
              case round =>
                clear hys hr ho hc6 hcl
                obtain ⟨j', ys', hj', rfl, hys', hr', ho', hc6'⟩ := hrel
                have hcl := ho'.cellAt i (by omega)
                rw [List.getElem?_map, List.getElem?_eq_getElem hil, Option.map_some, hv] at hcl
                by_cases hjl' : j' < ny
                · obtain ⟨ly, hown⟩ := rows_at hr' hys' i hil hv
                  obtain ⟨g, rfl, hgg1, hgg2⟩ := own_addr hown (by omega)
                  have hcc := own_cell hown j' hjl'
                  have hff := hown.frozenAt j'
                  have hRg := R g (by rw [hv]; rfl)
                  obtain ⟨ys2, hm2, hr2⟩ := rows_set (k := g) hr' j' 0 0 rfl
                  have ho2 := own_chg ho' (Chg.setCell (· = g) _ ⟨g, j', none⟩ (.int .u8 0) rfl) (fun q hq e => own_types ho' hown (by decide) q hq (by rw [e]; rfl))
                  have hc2 := hc6'.trans (Chg.setCell (fun q => b03 ≤ q ∧ q < w3.heap.size) _ ⟨g, j', none⟩ (.int .u8 0) hRg)
                  have H1 := Lib.hid hr2
                  have H2 := Lib.hid ho2
                  have H3 := Lib.hid hc2
                  clear hr2 ho2 hc2 hr' ho' hc6' hown
                  go_wp2
                  go_roundw
                  case rel => exact ⟨j' + 1, ys2, by omega, by go_num, hm2.trans hys', H1.out, H2.out, H3.out⟩
                  case measure => simp [intOf]; omega
                · go_wp2_with fail
                  go_roundw
                  case rel => exact ⟨i + 1, ys', by omega, by go_num, hys', hr', ho', hc6'⟩
                  case measure => simp [intOf]; omega
            · obtain rfl : i = xs.length := by omega
              have HC := Lib.hid hc6
              clear hc6 hr ho hys hi hil
              go_wp2_with fail
              have hc6 := HC.out
              go_roundw
              case rel =>
                exact ⟨k + 1, er4, A4, A5, n5, c4, c5, L5, by omega, by go_num, by rw [hT.out]; omega,
                  hA46.block fun h0 b o s hb => hc6.block b (hA46.at_lt h0 hb) (hA4n h0 b o s hb), hA56.block fun h0 b o s hb => hc6.block b (hA56.at_lt h0 hb) (hA5n h0 b o s hb),
                  (hc6.block _ (by omega) (by omega)).trans hs36, (hc6.block _ (by omega) (by omega)).trans hs46, hbel6.trans (hc6.below (by omega) (by intro q hq; omega)), by have := hc6.size; omega⟩
              case measure => simp [intOf]; omega
    · go_wp2_with fail
      go_ret
      exact ⟨rfl, hbel⟩
end Go.Proofs.Ytgcglnohpmpnkaa
