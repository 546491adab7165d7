/- Contracts: two slices of slices that hold the same; loads put together. -/
import Derived.Test.YtgcglnohpmpnkaaW13
namespace Go.Proofs.Ytgcglnohpmpnkaa
open Go.RowKit

theorem coll_bb {W : World} {B : Nat} {v : Value} {xs : List (Value × List UInt8)} (hown : W.ownsRow B 22 1 v xs.length (xs.map (·.1))) (hrows : RowsOf B xs W) :
    ∃ A c, v = .slice A xs.length c ∧ BB W A xs.length c (xs.map (·.2)) := by
  obtain ⟨A, c, rfl, hc, hm, h0, hrd, hA, hAn⟩ := ownsRow_form hown
  refine ⟨A, c, rfl, by simp, hc, hm, fun hnil => ?_, fun k hk => ?_⟩
  · rcases hown.2 with ⟨hv, _⟩ | ⟨g, cap, cur, hv, _⟩
    · injection hv
    · subst hnil; injection hv with h1; cases h1
  · obtain ⟨b, o, hAe, hcell⟩ := hrd.2 (by omega)
    have hx := hrows xs[k] (List.getElem_mem hk)
    obtain ⟨A', c', he, hbs⟩ := own_bs hx.1 (by omega)
    have := hcell k xs[k].1 (by rw [List.getElem?_map, List.getElem?_eq_getElem hk]; rfl)
    refine ⟨b, o, hAe, A', xs[k].2.length, c', by rw [this, he], ?_⟩
    rw [List.getD_eq_getElem?_getD, List.getElem?_map, List.getElem?_eq_getElem hk]
    exact hbs

set_option maxHeartbeats 1000000 in
theorem sameAll_yes (A A' : Option Addr) (n cap cap' : Nat) (ls : List (List UInt8)) (w : World) (h : BB w A n cap ls) (h' : BB w A' n cap' ls) :
    Calls Try.prog 23 #[.slice A n cap, .slice A' n cap'] w fun e w' => e = .returned (.bool true) ∧ ∃ k, w' = w.drewN k := by
  have hn63 : n ≤ 9223372036854775807 := Nat.le_trans h.le h.cap63
  have hne : ((n : Int) != n) = false := by simp
  go_enter Try.func23, Try.ntmps23
  go_wp2_with fail
  go_loopw [5] (fun i wr => ∃ k : Nat, k ≤ n ∧ i = .int .i64 k ∧ ∃ q, wr = w.drewN q) (fun i _ => n - (intOf i).toNat)
  case atStart => exact ⟨0, by omega, rfl, 0, rfl⟩
  case round =>
    obtain ⟨k, hk, rfl, q, rfl⟩ := hrel
    by_cases hlt : k < n
    · obtain ⟨b, o, rfl, A1, n1, c1, hc1, hb1⟩ := h.at_ k hlt
      obtain ⟨b', o', rfl, A2, n2, c2, hc2, hb2⟩ := h'.at_ k hlt
      obtain rfl : n2 = n1 := by rw [← hb1.rb.1, ← hb2.rb.1]
      go_wp2_with fail
      go_quiet ((go_at_call 18; exact q_draws (same_yes A1 A2 n2 c1 c2 _ _ (hb1.drewN _).rb (hb2.drewN _).rb)))
      go_wp2_with fail
      go_roundw
      case rel => exact ⟨k + 1, by omega, by go_num, _, rfl⟩
      case measure => simp [intOf]; omega
    · go_wp2_with fail
      go_ret
      exact ⟨rfl, _, rfl⟩

/-- Loads put together. -/
def joined (ls : List (List UInt8)) : List UInt8 := (ls.map frame).flatten
theorem joined_take_succ (ls : List (List UInt8)) (k : Nat) (h : k < ls.length) : joined (ls.take (k + 1)) = joined (ls.take k) ++ frame (ls.getD k []) := by
  unfold joined
  rw [List.take_succ_eq_append_getElem h, List.map_append, List.flatten_append, List.getD_eq_getElem?_getD, List.getElem?_eq_getElem h]
  simp
theorem joined_length (ls : List (List UInt8)) : (joined ls).length = lenSum ls + 8 * ls.length := by
  induction ls with
  | nil => rfl
  | cons l ls ih =>
    have : joined (l :: ls) = frame l ++ joined ls := rfl
    rw [this, List.length_append, ih, frame_length]
    simp only [lenSum, List.length_cons]
    omega
theorem len_le_sum (ls : List (List UInt8)) (k : Nat) : (ls.getD k []).length ≤ lenSum ls := by
  induction ls generalizing k with
  | nil => simp
  | cons l ls ih =>
    cases k with
    | zero => simp [lenSum]
    | succ k => have := ih k; simp only [List.getD_cons_succ, lenSum]; omega

set_option maxHeartbeats 1000000 in
theorem join_ok (A : Option Addr) (n cap : Nat) (ls : List (List UInt8)) (w : World) (h : BB w A n cap ls) (hb : lenSum ls + n ≤ 1048576) :
    Calls Try.prog 24 #[.slice A n cap] w fun e w' => ∃ v, e = .returned (.tuple #[v, .int .i64 0]) ∧ w'.ownsRow w.heap.size 5 1 v (joined ls).length (bl (joined ls)) ∧ Below w.heap.size w w' := by
  have hlen := Lib.hid h.len
  have HB := Lib.hid hb
  have hn20 : n ≤ 1048576 := by omega
  clear hb
  go_enter Try.func24, Try.ntmps24
  go_wp2_with fail
  go_loopw [4, 11] (fun v i wr => ∃ k : Nat, k ≤ n ∧ i = .int .i64 k ∧ wr.ownsRow w.heap.size 5 1 v (joined (ls.take k)).length (bl (joined (ls.take k))) ∧ Below w.heap.size w wr) (fun _ i _ => n - (intOf i).toNat)
  case atStart => exact ⟨0, by omega, rfl, World.ownsRow_nil _ _ _ _, Below.refl _ _⟩
  case round =>
    obtain ⟨k, hk, rfl, hown, hbel⟩ := hrel
    by_cases hlt : k < n
    · obtain ⟨b, o, rfl, A1, n1, c1, hc1, hb1⟩ := (h.below hbel).at_ k hlt
      have HJ := Lib.hid (joined_take_succ ls k (by rw [hlen.out]; exact hlt))
      have hl1 := Lib.hid hb1.rb.1
      have hsz : (joined (ls.take k)).length + (n1 + 8) ≤ 140737488355328 := by
        have h1 := joined_length (ls.take k)
        have h2 := lenSum_take_le ls k
        have h3 := len_le_sum ls k
        have h4 := hl1.out
        have h5 := HB.out
        have h6 : (ls.take k).length ≤ k := List.length_take_le _ _
        omega
      have hn1 : n1 ≤ 16777216 := by
        have h3 := len_le_sum ls k
        have h4 := hl1.out
        have h5 := HB.out
        omega
      generalize joined (ls.take k) = J at *
      obtain ⟨Av, cv, rfl, _⟩ := ownsRow_form hown
      go_wp2_with (first
        | (go_at_call 14; refine (put_yes A1 n1 c1 _ wr hb1 hn1).mono ?_; rintro e w2 ⟨v2, rfl, hown2, hb2⟩; obtain ⟨A2, c2, rfl, hbs2⟩ := own_bs hown2 (by omega); have hown' := own_below hown hb2 (Nat.le_refl _); have hbel' := hbel.trans (hb2.mono hbel.size))
        | (at_builtin; refine wpList_app sB rfl (.tmp 23) (.tmp 24) rfl w.heap.size _ J.length _ rfl hown' A2 (n1 + 8) c2 _ rfl hbs2.rb.rd (fun _ => hbs2.nil) (bl_one _) (by unfold maxLen; omega) (by omega) hbel'.size ?_; intro v3 w3 hown3 hg3 hat3))
      go_roundw
      case rel => exact ⟨k + 1, by omega, by go_num, by rw [HJ.out, bl_append, List.length_append, frame_length, hl1.out]; exact hown3, below_app hbel' hg3 hown' (Nat.le_refl _) hbel'.size⟩
      case measure => simp [intOf]; omega
    · obtain rfl : k = n := by omega
      have HT := Lib.hid (show ls.take k = ls from List.take_of_length_le (by rw [hlen.out]; exact Nat.le_refl _))
      go_wp2_with fail
      go_ret2
      rw [HT.out] at hown
      exact ⟨_, rfl, hown, hbel⟩

set_option maxHeartbeats 1000000 in
theorem joinref_ok (A : Option Addr) (n cap : Nat) (ls : List (List UInt8)) (w : World) (h : BB w A n cap ls) (hb : lenSum ls + n ≤ 1048576) :
    Calls Try.prog 25 #[.slice A n cap] w fun e w' => ∃ v, e = .returned (.tuple #[v, .int .i64 0]) ∧ w'.ownsRow w.heap.size 5 1 v (joined ls).length (bl (joined ls)) ∧ Below w.heap.size w w' := by
  have hlen := Lib.hid h.len
  have HB := Lib.hid hb
  have hn20 : n ≤ 1048576 := by omega
  clear hb
  go_enter Try.func25, Try.ntmps25
  go_wp2_with fail
  go_loopw [4, 5] (fun v i wr => ∃ k : Nat, k ≤ n ∧ i = .int .i64 k ∧ wr.ownsRow w.heap.size 5 1 v (joined (ls.take k)).length (bl (joined (ls.take k))) ∧ Below w.heap.size w wr) (fun _ i _ => n - (intOf i).toNat)
  case atStart => exact ⟨0, by omega, rfl, World.ownsRow_nil _ _ _ _, Below.refl _ _⟩
  case round =>
    obtain ⟨k, hk, rfl, hown, hbel⟩ := hrel
    by_cases hlt : k < n
    · obtain ⟨b, o, rfl, A1, n1, c1, hc1, hb1⟩ := (h.below hbel).at_ k hlt
      have HJ := Lib.hid (joined_take_succ ls k (by rw [hlen.out]; exact hlt))
      have hl1 := Lib.hid hb1.rb.1
      have hsz : (joined (ls.take k)).length + (n1 + 8) ≤ 140737488355328 := by
        have h1 := joined_length (ls.take k)
        have h2 := lenSum_take_le ls k
        have h3 := len_le_sum ls k
        have h4 := hl1.out
        have h5 := HB.out
        have h6 : (ls.take k).length ≤ k := List.length_take_le _ _
        omega
      have hn1 : n1 ≤ 16777216 := by
        have h3 := len_le_sum ls k
        have h4 := hl1.out
        have h5 := HB.out
        omega
      generalize joined (ls.take k) = J at *
      obtain ⟨Av, cv, rfl, _⟩ := ownsRow_form hown
      go_wp2_with (first
        | (go_at_call 15; refine (putref_yes A1 n1 c1 _ wr hb1 hn1).mono ?_; rintro e w2 ⟨v2, rfl, hown2, hb2⟩; obtain ⟨A2, c2, rfl, hbs2⟩ := own_bs hown2 (by omega); have hown' := own_below hown hb2 (Nat.le_refl _); have hbel' := hbel.trans (hb2.mono hbel.size))
        | (at_builtin; refine wpList_app sB rfl (.tmp 25) (.tmp 26) rfl w.heap.size _ J.length _ rfl hown' A2 (n1 + 8) c2 _ rfl hbs2.rb.rd (fun _ => hbs2.nil) (bl_one _) (by unfold maxLen; omega) (by omega) hbel'.size ?_; intro v3 w3 hown3 hg3 hat3))
      go_roundw
      case rel => exact ⟨k + 1, by omega, by go_num, by rw [HJ.out, bl_append, List.length_append, frame_length, hl1.out]; exact hown3, below_app hbel' hg3 hown' (Nat.le_refl _) hbel'.size⟩
      case measure => simp [intOf]; omega
    · obtain rfl : k = n := by omega
      have HT := Lib.hid (show ls.take k = ls from List.take_of_length_le (by rw [hlen.out]; exact Nat.le_refl _))
      go_wp2_with fail
      go_ret2
      rw [HT.out] at hown
      exact ⟨_, rfl, hown, hbel⟩

end Go.Proofs.Ytgcglnohpmpnkaa
