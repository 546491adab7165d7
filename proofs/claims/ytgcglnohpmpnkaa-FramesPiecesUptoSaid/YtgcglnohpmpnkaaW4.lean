/- Contracts: slices.Grow of nil, slices.Concat. -/
import Derived.Test.YtgcglnohpmpnkaaW3
import Derived.Lib.AppendZerosOnto
namespace Go.Proofs.Ytgcglnohpmpnkaa
open Go.RowKit

/-- A slice of slices of bytes: what it holds. -/
structure BB (w : World) (A : Option Addr) (n cap : Nat) (ls : List (List UInt8)) : Prop where
  len : ls.length = n
  le : n ≤ cap
  cap63 : cap ≤ maxLen
  nil : A = none → cap = 0
  at_ : ∀ k, k < n → ∃ b o, A = some ⟨b, o, none⟩ ∧ ∃ A' n' c', w.cell? ⟨b, o + k, none⟩ = some (.slice A' n' c') ∧ BS w A' n' c' (ls.getD k [])
theorem BB.kept {w w' : World} {A : Option Addr} {n cap : Nat} {ls : List (List UInt8)} (h : BB w A n cap ls) (hk : ∀ p v, w.cell? p = some v → w'.cell? p = some v) : BB w' A n cap ls :=
  ⟨h.len, h.le, h.cap63, h.nil, fun k hkn => let ⟨b, o, hA, A', n', c', hc, hb⟩ := h.at_ k hkn; ⟨b, o, hA, A', n', c', hk _ _ hc, hb.kept hk⟩⟩
theorem BB.below {w w' : World} {A : Option Addr} {n cap : Nat} {ls : List (List UInt8)} (h : BB w A n cap ls) (hb : Below w.heap.size w w') : BB w' A n cap ls :=
  h.kept fun p _ hp => (hb.cell (p := p) (World.block_lt_of_cell? w p hp)).trans hp
theorem BB.alloc {w : World} {A : Option Addr} {n cap : Nat} {ls : List (List UInt8)} (h : BB w A n cap ls) (o : Obj) : BB (w.alloc o) A n cap ls :=
  h.kept fun p _ hp => (World.cell?_alloc_lt w o p (World.block_lt_of_cell? w p hp)).trans hp
theorem BB.drewN {w : World} {A : Option Addr} {n cap : Nat} {ls : List (List UInt8)} (h : BB w A n cap ls) (k : Nat) : BB (w.drewN k) A n cap ls :=
  h.kept fun _ _ hp => hp

def lenSum : List (List UInt8) → Nat
  | [] => 0
  | l :: ls => l.length + lenSum ls
theorem lenSum_append (a b : List (List UInt8)) : lenSum (a ++ b) = lenSum a + lenSum b := by
  induction a with
  | nil => simp [lenSum]
  | cons x a ih => simp [lenSum, ih]; omega
theorem flatten_length (ls : List (List UInt8)) : ls.flatten.length = lenSum ls := by
  induction ls with
  | nil => rfl
  | cons x a ih => simp [lenSum, ih]
theorem lenSum_take_succ (ls : List (List UInt8)) (k : Nat) (h : k < ls.length) : lenSum (ls.take (k + 1)) = lenSum (ls.take k) + (ls.getD k []).length := by
  rw [List.take_succ_eq_append_getElem h, lenSum_append, List.getD_eq_getElem?_getD, List.getElem?_eq_getElem h]
  simp [lenSum]
theorem flatten_take_succ (ls : List (List UInt8)) (k : Nat) (h : k < ls.length) : (ls.take (k + 1)).flatten = (ls.take k).flatten ++ ls.getD k [] := by
  rw [List.take_succ_eq_append_getElem h, List.flatten_append, List.getD_eq_getElem?_getD, List.getElem?_eq_getElem h]
  simp
theorem lenSum_take_le (ls : List (List UInt8)) (k : Nat) : lenSum (ls.take k) ≤ lenSum ls := by
  have : lenSum (ls.take k ++ ls.drop k) = lenSum ls := by rw [List.take_append_drop]
  rw [lenSum_append] at this; omega

set_option maxHeartbeats 400000 in
theorem grow_nil (k : Nat) (w : World) (hk : k ≤ 140737488355328) :
    Calls Try.prog 37 #[.slice none 0 0, .int .i64 k] w fun e w' => ∃ v, e = .returned v ∧ w'.ownsRow w.heap.size 5 1 v 0 [] ∧ Below w.heap.size w w' := by
  by_cases h0 : k = 0
  · subst h0
    go_enter Try.func37, Try.ntmps37
    go_wp2_with fail
    go_ret
    exact ⟨_, rfl, World.ownsRow_nil _ _ _ _, Below.refl _ _⟩
  · obtain ⟨i, z, hi, hz, hs, hb, hzs⟩ := sB.ex
    obtain ⟨zr, hzr, hap⟩ : ∃ zr : World → Array Value, (∀ W, (zr W).size = grownCap W k 0 5) ∧ ∀ (W : World) ty, (Builtin.append_ #[22, 3] ty #[.slice none 0 0, .int .i64 (k : Int)]).run Try.prog W =
        .ok (.slice (some ⟨W.heap.size, 0, none⟩) k (grownCap W k 0 5)) (W.drew.alloc (.cells (zr W) 5)) := by
      refine ⟨fun W => #[] ++ Builtin.zeroCells z.cells k ++ Builtin.zeroCells z.cells (grownCap W (0 + k) 0 5 - (0 + k)), fun W => ?_, fun W ty => ?_⟩
      · have := grownCap_ge W (0 + k) 0 5
        rw [Nat.zero_add] at *
        simp [size_zeroCells, hzs]; omega
      · have := Lib.run_append_grow_zeros (P := Try.prog) W 22 3 ty 5 i z .i64 .i64 Try.underlying22 Try.underlying3 hi hz none 0 0 [] (run_firstCells_none W.drew i.size 0 0 0) k (by omega) (by omega) (by omega) (by omega) (by rw [hb]; omega)
          (by rw [Nat.zero_add, nextslicecap_zero (by omega), hb]; omega)
        rw [this]
        simp only [Nat.zero_add]
    have hcap := fun W => grownCap_le_maxLen W k 0 5 (by unfold maxLen; omega)
    have hpos : (0 : Int) < k := by omega
    go_enter Try.func37, Try.ntmps37
    go_wp2_with (at_builtin; refine wpList_append_run rfl (.tmp 20) (.tmp 21) #[22, 3] rfl (.slice none 0 0) (.int .i64 (k : Int)) _ _ rfl rfl (hap _) ?_)
    go_ret
    exact ⟨_, rfl, World.ownsRow_made w.drew (zr w) (grownCap w k 0 5) (Nat.le_refl _) (hcap w) (by rw [hzr]; omega), (Below.refl _ _).drew.alloc (Nat.le_refl _) _⟩

set_option maxHeartbeats 1000000 in
theorem concat_any (A : Option Addr) (n cap : Nat) (ls : List (List UInt8)) (w : World) (h : BB w A n cap ls) (hsum : lenSum ls ≤ 140737488355328) :
    Calls Try.prog 29 #[.slice A n cap] w fun e w' => ∃ v, e = .returned v ∧ w'.ownsRow w.heap.size 5 1 v (lenSum ls) (bl ls.flatten) ∧ Below w.heap.size w w' := by
  have hn63 : n ≤ 9223372036854775807 := Nat.le_trans h.le h.cap63
  have hlen := h.len
  go_enter Try.func29, Try.ntmps29
  go_wp2_with fail
  go_loop [3, 5, 11] (fun s x i => ∃ k : Nat, k ≤ n ∧ i = .int .i64 k ∧ s = .int .i64 (lenSum (ls.take k))) (fun _ _ i => n - (intOf i).toNat)
  case atStart => exact ⟨0, by omega, rfl, rfl⟩
  case round =>
    obtain ⟨k, hk, rfl, rfl⟩ := hrel
    by_cases hlt : k < n
    · obtain ⟨b, o, rfl, A', n', c', hc, hb⟩ := h.at_ k hlt
      have HS := Lib.hid (lenSum_take_succ ls k (by omega))
      have hle := lenSum_take_le ls (k + 1)
      have hl' := hb.rb.1
      rw [HS.out] at hle
      have HL := Lib.hid hl'
      rw [hl'] at hle
      clear hl'
      go_wp2_with fail
      go_round
      case rel => exact ⟨k + 1, by omega, by go_num, by rw [HS.out, HL.out]; go_num⟩
      case measure => simp [intOf]; omega
    · obtain rfl : k = n := by omega
      rw [List.take_of_length_le (by omega)]
      go_wp2_with (go_at_call 37; refine (grow_nil (lenSum ls) _ hsum).mono ?_; rintro e w1 ⟨v1, rfl, hown1, hb1⟩)
      obtain ⟨z, hz⟩ : ∃ z : Nat, z = k := ⟨k, rfl⟩
      go_loopw [6, 8, 27] (fun v x i wr => ∃ j : Nat, j ≤ k ∧ i = .int .i64 j ∧ wr.ownsRow w.heap.size 5 1 v (lenSum (ls.take j)) (bl (ls.take j).flatten) ∧ Below w.heap.size w wr) (fun _ _ i _ => k - (intOf i).toNat)
      case atStart => exact ⟨0, by omega, rfl, hown1, hb1⟩
      case round =>
        obtain ⟨j, hj, rfl, hown, hbel⟩ := hrel
        clear hown1 hb1
        by_cases hlt : j < k
        · obtain ⟨b, o, rfl, A', n', c', hc, hb⟩ := (h.below hbel).at_ j hlt
          have HS := Lib.hid (lenSum_take_succ ls j (by omega))
          have HF := Lib.hid (flatten_take_succ ls j (by omega))
          have hle := lenSum_take_le ls (j + 1)
          have hl' := hb.rb.1
          rw [HS.out, hl'] at hle
          have HL := Lib.hid hl'
          clear hl'
          go_wp2_with (at_builtin; refine wpList_app sB rfl (.tmp 31) (.tmp 32) rfl w.heap.size _ _ _ rfl hown A' n' c' (bl (ls.getD j [])) rfl hb.rb.rd (fun _ => hb.nil) (bl_one _) (by unfold maxLen; omega) (by omega) hbel.size ?_; intro v2 w2 hown2 hg2 hat2)
          go_roundw
          case rel => exact ⟨j + 1, by omega, by go_num, by rw [HS.out, HF.out, HL.out, bl_append]; exact hown2, below_app hbel hg2 hown (Nat.le_refl _) hbel.size⟩
          case measure => simp [intOf]; omega
        · obtain rfl : j = k := by omega
          go_wp2_with fail
          go_ret
          rw [List.take_of_length_le (by omega)] at hown
          exact ⟨_, rfl, hown, hbel⟩
end Go.Proofs.Ytgcglnohpmpnkaa
