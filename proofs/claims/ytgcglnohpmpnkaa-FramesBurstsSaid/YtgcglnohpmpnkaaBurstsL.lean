/- Laws on bits for the walk of FramesBursts. -/
import Derived.Test.YtgcglnohpmpnkaaW9
import Derived.Test.YtgcglnohpmpnkaaM2
namespace Go.Proofs.Ytgcglnohpmpnkaa
open Go.RowKit

theorem mask_bit (m k : Nat) (hm : m < 4294967296) : bits .and .u32 ((m : Int) / 2 ^ k) 1 = if m.testBit k then 1 else 0 := by
  have h1 : ((m : Int) / 2 ^ k) = ((m / 2 ^ k : Nat) : Int) := by simp
  have hd : m / 2 ^ k ≤ m := Nat.div_le_self _ _
  rw [h1, show (1 : Int) = ((1 : Nat) : Int) from rfl, u32_and_nat _ _ (by omega) (by omega), Nat.and_one_is_mod, Nat.testBit_eq_decide_div_mod_eq]
  have := Nat.mod_two_eq_zero_or_one (m / 2 ^ k)
  rcases this with h | h <;> simp [h]
theorem u8_xor_bv (x y : UInt8) : bits .xor .u8 (x.toNat : Int) (y.toNat : Int) = ((x ^^^ y).toNat : Int) := by
  rw [UInt8.toNat_xor]; exact u8_xor_nat _ _ x.toNat_lt y.toNat_lt
theorem turn_val (u : UInt8) (b : Nat) : bits .xor .u8 (u.toNat : Int) ((2 : Int) ^ b % 256) = ((turnBit u b).toNat : Int) := by
  rw [turnBit, ← u8_xor_bv, UInt8.toNat_ofNat']
  congr 1
theorem sum_val (u : UInt8) (s k : Nat) : bits .xor .u8 (u.toNat : Int) ((s : Int) / 2 ^ (8 * k) % 256) = ((u ^^^ UInt8.ofNat (s / 2 ^ (8 * k))).toNat : Int) := by
  rw [← u8_xor_bv, UInt8.toNat_ofNat']
  congr 1

end Go.Proofs.Ytgcglnohpmpnkaa
