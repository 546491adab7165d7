/- The walk of FramesNexts. -/
import Derived.Test.YtgcglnohpmpnkaaW14
namespace Go.Proofs.Ytgcglnohpmpnkaa
open Go.RowKit

def nextV (l : List UInt8) : List UInt8 := if nextE l = 0 then nextL l else []
def nextN (l : List UInt8) : Nat := if nextE l = 0 then num4 l + 8 else 0
theorem nextV_le (l : List UInt8) : (nextV l).length ≤ l.length := by
  unfold nextV nextL
  split
  · rw [List.length_take, List.length_drop]; omega
  · simp
theorem next_all (A : Option Addr) (n cap : Nat) (l : List UInt8) (w : World) (h : BS w A n cap l) :
    Calls Try.prog 19 #[.slice A n cap] w fun e w' => ∃ v, e = .returned (.tuple #[v, .int .i64 (nextN l), .int .i64 (nextE l)]) ∧ w'.ownsRow w.heap.size 5 1 v (nextV l).length (bl (nextV l)) ∧ Below w.heap.size w w' := by
  unfold nextV nextN
  by_cases he : nextE l = 0
  · rw [if_pos he, if_pos he, he, nextL_length he]
    exact next_good A n cap l w h he
  · rw [if_neg he, if_neg he]
    exact (next_fail A n cap l w h he).mono fun e w' ⟨h1, h2⟩ => ⟨_, h1, World.ownsRow_nil _ _ _ _, h2⟩
theorem nextref_all (A : Option Addr) (n cap : Nat) (l : List UInt8) (w : World) (h : BS w A n cap l) :
    Calls Try.prog 20 #[.slice A n cap] w fun e w' => ∃ v, e = .returned (.tuple #[v, .int .i64 (nextN l), .int .i64 (nextE l)]) ∧ w'.ownsRow w.heap.size 5 1 v (nextV l).length (bl (nextV l)) ∧ Below w.heap.size w w' := by
  unfold nextV nextN
  by_cases he : nextE l = 0
  · rw [if_pos he, if_pos he, he, nextL_length he]
    exact nextref_good A n cap l w h he
  · rw [if_neg he, if_neg he]
    exact (nextref_fail A n cap l w h he).mono fun e w' ⟨h1, h2⟩ => ⟨_, h1, World.ownsRow_nil _ _ _ _, h2⟩

set_option maxHeartbeats 4000000 in
theorem nexts_walk (A A' : Option Addr) (n cap n' cap' : Nat) (l : List UInt8) (ls : List (List UInt8)) (w : World) (h : BS w A n cap l) (h' : BB w A' n' cap' ls) (hn : n ≤ 1048576) (hls : lenSum ls + n' ≤ 1048576) :
    Calls Try.prog 6 #[.slice A n cap, .slice A' n' cap'] w fun e w' => e = .returned (.bool true) ∧ Below w.heap.size w w' := by
  have hV := nextV_le l
  have hl := Lib.hid h.rb.1
  have HV := Lib.hid hV
  rw [hl.out] at hV
  go_enter Try.func6, Try.ntmps6
  go_wp2_with fail
  refine (own_any A n cap l w h).mono ?_
  rintro e w1 ⟨v1, rfl, own1, b1⟩
  have Z1 := Lib.hid own1.lt
  obtain ⟨A1, c1, rfl, m1⟩ := own_bs own1 (by omega)
  go_wp2_with fail
  refine (next_all A1 n c1 l w1 m1).mono ?_
  rintro e w2 ⟨v2, rfl, own2, b2⟩
  have Z2 := Lib.hid own2.lt
  obtain ⟨A2, c2, rfl, m2⟩ := own_bs own2 (by omega)
  go_wp2_with fail
  refine (nextref_all A n cap l w2 ((h.below b1).below b2)).mono ?_
  rintro e w3 ⟨v3, rfl, own3, b3⟩
  have Z3 := Lib.hid own3.lt
  obtain ⟨A3, c3, rfl, m3⟩ := own_bs own3 (by omega)
  have q2 := m2.below b3
  have o1 := own_below (own_below own1 b2 (Nat.le_refl _)) b3 (Nat.le_refl _)
  have o2 := own_below own2 b3 (Nat.le_refl _)
  have bb := (b1.trans (b2.mono b1.size)).trans (b3.mono (Nat.le_trans b1.size b2.size))
  have s1 := b1.size
  have s2 := b2.size
  have s3 := b3.size
  clear own1 own2 m1 m2 b1 b2 b3
  generalize nextV l = L at *
  generalize nextN l = nN at *
  generalize nextE l = nE at *
  go_wp2_with (first
    | (go_at_call 18; refine (same_yes A2 A3 L.length c2 c3 _ _ q2.rb m3.rb).mono ?_; rintro e w4 ⟨rfl, k4, rfl⟩)
    | (go_at_call 17; refine (no_any _ _).mono ?_; rintro e w4 ⟨rfl, rfl⟩)
    | (go_at_call 11; refine (live_any _).mono ?_; rintro e w5 ⟨rfl, b5⟩))
  have o1' := own_below (own_drewN o1 k4) b5 (Nat.le_refl _)
  have o2' := own_below (own_drewN o2 k4) b5 (Nat.le_refl _)
  have bb5 := (below_drewN bb k4).trans (b5.mono (by have := bb.size; simpa using this))
  clear o1 o2 bb b5 q2 m3 own3
  go_loopw [12] (fun i wr => ∃ (k : Nat) (l' : List UInt8), k ≤ L.length ∧ i = .int .i64 k ∧ wr.ownsRow w1.heap.size 5 1 (.slice A2 L.length c2) L.length (bl l') ∧ wr.ownsRow w.heap.size 5 1 (.slice A1 n c1) n (bl l) ∧ Below w.heap.size w wr) (fun i _ => L.length - (intOf i).toNat)
  case atStart => exact ⟨0, L, by omega, rfl, o2', o1', bb5⟩
  case round =>
    obtain ⟨k, l', hk, rfl, r2, r1, hbel⟩ := hrel
    clear o1' o2' bb5
    by_cases hlt : k < L.length
    · obtain ⟨g, rfl, hg1, hg2⟩ := own_addr r2 (by omega)
      have hc := own_cell r2 k hlt
      have hf := r2.frozenAt k
      obtain ⟨S1, S2⟩ := set_bytes r2 k (((l'.getD k 0).toNat + 1) % 256) (l'.getD k 0 + 1) (u8_succ _)
      have S3 := own_far r1 S2 (fun j hj => by have := Z1.out j hj; omega)
      have S5 := hbel.setCell (p := ⟨g, k, none⟩) (by show w.heap.size ≤ g; omega) (.int .u8 (((l'.getD k 0).toNat + 1) % 256))
      generalize l'.getD k 0 = u at *
      have H1 := Lib.hid S1
      have H3 := Lib.hid S3
      have H5 := Lib.hid S5
      clear S1 S2 S3 S5 r1 r2 hbel
      go_wp2
      go_roundw
      case rel => exact ⟨k + 1, l'.set k (u + 1), by omega, by go_num, H1.out, H3.out, H5.out⟩
      case measure => simp [intOf]; omega
    · obtain ⟨A1', c1', e1, m1⟩ := own_bs r1 (by omega)
      injection e1 with eA _ ec
      subst eA ec
      go_wp2_with fail
      refine (split_any A1 n c1 l wr m1 (by omega)).mono ?_
      rintro e w6 ⟨v6, xs, a, er, rfl, own6, rows6, sp6, b6⟩
      go_wp2_with fail
      have hbel6 := hbel.trans (b6.mono hbel.size)
      refine (splitref_any A n cap l w6 (h.below hbel6) (by omega)).mono ?_
      rintro e w7 ⟨v7, xs', a', er', rfl, own7, rows7, sp7, b7⟩
      obtain ⟨ex, rfl, rfl⟩ := sp7.det sp6
      have hx : xs'.length = xs.length := by have := congrArg List.length ex; simpa using this
      have hbel7 := hbel6.trans (b7.mono hbel6.size)
      obtain ⟨A6, c6, rfl, m6⟩ := coll_bb (own_below own6 b7 (Nat.le_refl _)) (RowsOf.below rows6 b7)
      obtain ⟨A7, c7, rfl, m7⟩ := coll_bb own7 rows7
      rw [ex, hx] at m7
      have m1' := (m1.below b6).below b7
      have h7 := h.below hbel7
      have h7' := h'.below hbel7
      have HX := Lib.hid hx
      clear sp6 sp7 own6 own7 rows6 rows7 b6 b7 r1 r2 hbel ex hbel6
      rw [hx] at *
      clear hx
      go_wp2_with (first
        | (go_at_call 23; refine (sameAll_yes A6 A7 xs.length c6 c7 _ _ m6 m7).mono ?_; rintro e w8 ⟨rfl, k8, rfl⟩)
        | (go_at_call 17; refine (no_any _ _).mono ?_; rintro e w9 ⟨rfl, rfl⟩)
        | (go_at_call 18; refine (same_yes A1 A n c1 cap _ _ (m1'.drewN k8).rb (h7.drewN k8).rb).mono ?_; clear m1'; rintro e w9 ⟨rfl, k9, rfl⟩)
        | (go_at_call 24; refine (join_ok A' n' cap' ls _ (h7'.drewN (k8 + k9)) hls).mono ?_; rintro e w10 ⟨v10, rfl, own10, b10⟩; obtain ⟨A10, c10, rfl, m10⟩ := own_bs own10 (by rw [joined_length, h'.len]; omega))
        | (go_at_call 25; refine (joinref_ok A' n' cap' ls _ ((h7'.drewN (k8 + k9)).below b10) hls).mono ?_; rintro e w11 ⟨v11, rfl, own11, b11⟩; obtain ⟨A11, c11, rfl, m11⟩ := own_bs own11 (by rw [joined_length, h'.len]; omega))
        | (go_at_call 18; refine (same_yes A10 A11 _ c10 c11 _ _ (m10.below b11).rb m11.rb).mono ?_; rintro e w12 ⟨rfl, k12, rfl⟩)
        | (go_at_call 17; refine (no_any _ _).mono ?_; rintro e w12 ⟨rfl, rfl⟩))
      go_ret
      have q1 := (below_drewN hbel7 (k8 + k9)).trans (b10.mono hbel7.size)
      exact ⟨rfl, below_drewN (q1.trans (b11.mono q1.size)) _⟩
end Go.Proofs.Ytgcglnohpmpnkaa
