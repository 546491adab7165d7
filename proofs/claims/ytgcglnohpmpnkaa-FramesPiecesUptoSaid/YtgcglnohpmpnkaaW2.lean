/- Contracts: the number of four bytes, a number as four bytes, Errno as a number, two slices that hold the same. -/
import Derived.Test.YtgcglnohpmpnkaaW1
namespace Go.Proofs.Ytgcglnohpmpnkaa
open Go.RowKit

/-- Bytes as cells. -/
def bl (l : List UInt8) : List Value := l.map fun b => Value.int .u8 b.toNat
theorem u8_div (n : Nat) : ((n : Int) % 256) = (((UInt8.ofNat n).toNat : Nat) : Int) := by
  rw [UInt8.toNat_ofNat']; omega
theorem word_cells (n : BitVec 32) : #[Value.int IntKind.u8 ((n.toNat : Int) / 16777216), Value.int IntKind.u8 ((n.toNat : Int) / 65536 % 256),
    Value.int IntKind.u8 ((n.toNat : Int) / 256 % 256), Value.int IntKind.u8 ((n.toNat : Int) % 256)] = (bl (word4 n)).toArray := by
  have := n.isLt
  simp only [bl, word4, List.map_cons, List.map_nil, UInt8.toNat_ofNat']
  congr 3 <;> congr 1 <;> omega
theorem num_bits (b0 b1 b2 b3 : UInt8) : bits BinOp.or IntKind.u32
            (bits BinOp.or IntKind.u32
              (bits BinOp.or IntKind.u32 ((b0.toNat : Int) % 4294967296 * 16777216 % 4294967296)
                ((b1.toNat : Int) % 4294967296 * 65536 % 4294967296))
              ((b2.toNat : Int) % 4294967296 * 256 % 4294967296))
            ((b3.toNat : Int) % 4294967296) = ((b0.toNat * 16777216 + b1.toNat * 65536 + b2.toNat * 256 + b3.toNat : Nat) : Int) := by
  have h0 := b0.toNat_lt
  have h1 := b1.toNat_lt
  have h2 := b2.toNat_lt
  have h3 := b3.toNat_lt
  rw [← or_bytes b0.toNat b1.toNat b2.toNat b3.toNat h1 h2 h3]
  rw [show ((b0.toNat : Int) % 4294967296 * 16777216 % 4294967296) = ((b0.toNat * 16777216 : Nat) : Int) from by omega,
    show ((b1.toNat : Int) % 4294967296 * 65536 % 4294967296) = ((b1.toNat * 65536 : Nat) : Int) from by omega,
    show ((b2.toNat : Int) % 4294967296 * 256 % 4294967296) = ((b2.toNat * 256 : Nat) : Int) from by omega,
    show ((b3.toNat : Int) % 4294967296) = (b3.toNat : Int) from by omega]
  rw [u32_or_nat _ _ (by omega) (by omega)]
  have e1 : b0.toNat * 16777216 ||| b1.toNat * 65536 < 2 ^ 32 := Nat.or_lt_two_pow (by omega) (by omega)
  rw [u32_or_nat _ _ (by omega) (by omega)]
  have e2 : b0.toNat * 16777216 ||| b1.toNat * 65536 ||| b2.toNat * 256 < 2 ^ 32 := Nat.or_lt_two_pow e1 (by omega)
  rw [u32_or_nat _ _ (by omega) (by omega)]

set_option maxHeartbeats 400000 in
theorem number_any (A : Option Addr) (n cap : Nat) (l : List UInt8) (w : World) (h : RB w A n l) (h4 : 4 ≤ n) :
    Calls Try.prog 32 #[.slice A n cap] w fun e w' => e = .returned (.int .u32 (num4 l)) ∧ ∃ k, w' = w.drewN k := by
  obtain ⟨hl, hn, hr⟩ := h
  obtain ⟨b, o, rfl, hq⟩ := hr (by omega)
  have c0 := hq 0 (by omega)
  have c1 := hq 1 (by omega)
  have c2 := hq 2 (by omega)
  have c3 := hq 3 (by omega)
  rw [Nat.add_zero] at c0
  clear hr hq
  have HN := Lib.hid (show num4 l = (l.getD 0 0).toNat * 16777216 + (l.getD 1 0).toNat * 65536 + (l.getD 2 0).toNat * 256 + (l.getD 3 0).toNat from rfl)
  generalize l.getD 0 0 = b0 at *
  generalize l.getD 1 0 = b1 at *
  generalize l.getD 2 0 = b2 at *
  generalize l.getD 3 0 = b3 at *
  have g0 : 0 < n := by omega
  have g1 : (1 : Int) < n := by omega
  have g2 : (2 : Int) < n := by omega
  have g3 : (3 : Int) < n := by omega
  go_enter Try.func32, Try.ntmps32
  go_wp2
  go_quiet (fail)
  go_wp2
  go_ret
  exact ⟨ret_u32 (by rw [num_bits, HN.out]), _, rfl⟩
set_option maxHeartbeats 400000 in
theorem numref_any (A : Option Addr) (n cap : Nat) (l : List UInt8) (w : World) (h : RB w A n l) (h4 : 4 ≤ n) :
    Calls Try.prog 34 #[.slice A n cap] w fun e w' => e = .returned (.int .u32 (num4 l)) ∧ ∃ k, w' = w.drewN k := by
  obtain ⟨hl, hn, hr⟩ := h
  obtain ⟨b, o, rfl, hq⟩ := hr (by omega)
  have c0 := hq 0 (by omega)
  have c1 := hq 1 (by omega)
  have c2 := hq 2 (by omega)
  have c3 := hq 3 (by omega)
  rw [Nat.add_zero] at c0
  clear hr hq
  have HN := Lib.hid (show num4 l = (l.getD 0 0).toNat * 16777216 + (l.getD 1 0).toNat * 65536 + (l.getD 2 0).toNat * 256 + (l.getD 3 0).toNat from rfl)
  generalize l.getD 0 0 = b0 at *
  generalize l.getD 1 0 = b1 at *
  generalize l.getD 2 0 = b2 at *
  generalize l.getD 3 0 = b3 at *
  have g0 : 0 < n := by omega
  have g1 : (1 : Int) < n := by omega
  have g2 : (2 : Int) < n := by omega
  have g3 : (3 : Int) < n := by omega
  go_enter Try.func34, Try.ntmps34
  go_wp2
  go_quiet (fail)
  go_wp2
  go_ret
  exact ⟨ret_u32 (by rw [num_bits, HN.out]), _, rfl⟩
set_option maxHeartbeats 400000 in
theorem four_any (n : BitVec 32) (w : World) :
    Calls Try.prog 30 #[.int .u32 n.toNat] w fun e w' => e = .returned (.slice (some ⟨w.heap.size, 0, none⟩) 4 4) ∧ w' = w.alloc (.cells (bl (word4 n)).toArray 5) := by
  go_enter Try.func30, Try.ntmps30
  go_wp2
  go_ret
  exact ⟨rfl, congrArg (fun c => w.alloc (.cells c 5)) (word_cells n)⟩
set_option maxHeartbeats 400000 in
theorem word_any (n : BitVec 32) (w : World) :
    Calls Try.prog 31 #[.int .u32 n.toNat] w fun e w' => e = .returned (.slice (some ⟨w.heap.size, 0, none⟩) 4 4) ∧ w' = w.alloc (.cells (bl (word4 n)).toArray 5) := by
  go_enter Try.func31, Try.ntmps31
  go_wp2
  go_ret
  exact ⟨rfl, congrArg (fun c => w.alloc (.cells c 5)) (word_cells n)⟩
theorem no_any (n : Int) (w : World) : Calls Try.prog 17 #[.int .i64 n] w fun e w' => e = .returned (.int .i64 n) ∧ w = w' := by
  go_enter Try.func17, Try.ntmps17
  go_wp2
  go_ret
  exact ⟨rfl, rfl⟩
set_option maxHeartbeats 400000 in
theorem same_yes (A B : Option Addr) (n cap cap' : Nat) (l : List UInt8) (w : World) (h : RB w A n l) (h' : RB w B n l) :
    Calls Try.prog 18 #[.slice A n cap, .slice B n cap'] w fun e w' => e = .returned (.bool true) ∧ ∃ k, w' = w.drewN k := by
  have hr := fun k (hk : k < n) => h.at_ hk
  have hs := fun k (hk : k < n) => h'.at_ hk
  obtain ⟨hl, hn, _⟩ := h
  clear h'
  have hne : ((n : Int) != n) = false := by simp
  go_enter Try.func18, Try.ntmps18
  go_wp2
  go_loopw [5] (fun i wr => ∃ k : Nat, k ≤ n ∧ i = .int .i64 k ∧ ∃ q, wr = w.drewN q) (fun i _ => n - (intOf i).toNat)
  case atStart => exact ⟨0, by omega, rfl, 0, rfl⟩
  case round =>
    obtain ⟨k, hk, rfl, q, rfl⟩ := hrel
    by_cases hlt : k < n
    · obtain ⟨b, o, rfl, hc⟩ := hr k hlt
      obtain ⟨b', o', rfl, hc'⟩ := hs k hlt
      clear hr hs
      generalize l.getD k 0 = u at *
      go_wp2
      go_quiet (fail)
      go_wp2
      go_roundw
      case rel => exact ⟨k + 1, by omega, by go_num, _, rfl⟩
      case measure => simp [intOf]; omega
    · go_wp2
      go_ret
      exact ⟨rfl, _, rfl⟩
end Go.Proofs.Ytgcglnohpmpnkaa
