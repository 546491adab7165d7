/- Contracts of the functions that only read: the two checksums, the two numbers of four bytes. -/
import Derived.Test.YtgcglnohpmpnkaaProg
import Derived.Test.YtgcglnohpmpnkaaM1
import Derived.WalkKit
import Derived.WalkSpells
import Derived.WalkLawsBesides
import Derived.BigQuiet
import Derived.Lib.Hide
import Derived.Deep.QuietTactic
namespace Go.Proofs.Ytgcglnohpmpnkaa
open Go.RowKit

theorem bits_and_one (s : BitVec 32) : bits .and .u32 (s.toNat : Int) 1 = ((s &&& 1#32).toNat : Int) := by
  have := u32_and_nat s.toNat 1 s.isLt (by omega)
  rw [BitVec.toNat_and]
  exact this
theorem test_true (s : BitVec 32) (h : s.getLsbD 0 = true) : (bits .and .u32 (s.toNat : Int) 1 == 1) = true := by
  rw [bits_and_one]
  have : s &&& 1#32 = 1#32 := by
    apply BitVec.eq_of_getLsbD_eq
    intro i hi
    rw [BitVec.getLsbD_and, BitVec.getLsbD_one]
    by_cases h0 : i = 0
    · subst h0; rw [h]; rfl
    · simp [h0]
  rw [this]; rfl
theorem test_false (s : BitVec 32) (h : s.getLsbD 0 = false) : (bits .and .u32 (s.toNat : Int) 1 == 1) = false := by
  rw [bits_and_one]
  have : s &&& 1#32 = 0#32 := by
    apply BitVec.eq_of_getLsbD_eq
    intro i hi
    rw [BitVec.getLsbD_and, BitVec.getLsbD_one]
    by_cases h0 : i = 0
    · subst h0; rw [h]; rfl
    · simp [h0]
  rw [this]; rfl
theorem bits_xor_bv (a b : BitVec 32) : bits .xor .u32 (a.toNat : Int) (b.toNat : Int) = ((a ^^^ b).toNat : Int) := by
  rw [BitVec.toNat_xor]; exact u32_xor_nat a.toNat b.toNat a.isLt b.isLt
theorem step_true (s : BitVec 32) (h : s.getLsbD 0 = true) : bits .xor .u32 ((s.toNat : Int) / 2) 3988292384 = ((tstep s).toNat : Int) := by
  unfold tstep
  rw [if_pos h, ← bits_xor_bv]
  congr 1
theorem step_false (s : BitVec 32) (h : s.getLsbD 0 = false) : ((s.toNat : Int) / 2) = ((tstep s).toNat : Int) := by
  unfold tstep
  rw [if_neg (by rw [h]; decide), BitVec.toNat_ushiftRight, Nat.shiftRight_eq_div_pow]
  rfl
theorem start_byte (s : BitVec 32) (b : UInt8) : bits .xor .u32 (s.toNat : Int) ((b.toNat : Int) % 4294967296) = ((tsteps 0 (s ^^^ BitVec.ofNat 32 b.toNat)).toNat : Int) := by
  have hb : b.toNat < 256 := b.toNat_lt
  have : ((b.toNat : Int) % 4294967296) = ((BitVec.ofNat 32 b.toNat).toNat : Int) := by
    rw [BitVec.toNat_ofNat]; omega
  rw [this, bits_xor_bv]; rfl
theorem u32_not (s : BitVec 32) : bits .xor .u32 IntKind.u32.max (s.toNat : Int) = ((~~~ s).toNat : Int) := by
  have : (IntKind.u32.max : Int) = ((4294967295#32).toNat : Int) := by decide
  rw [this, bits_xor_bv]
  congr 2
theorem ret_u32 {k : IntKind} {a b : Int} (h : a = b) : Ending.returned (.int k a) = .returned (.int k b) := by rw [h]
theorem val_int {k : IntKind} {a b : Int} (h : a = b) : Value.int k a = .int k b := by rw [h]

/-- A slice value that reads as a list of bytes. -/
def RB (w : World) (A : Option Addr) (n : Nat) (l : List UInt8) : Prop :=
  l.length = n ∧ n ≤ 140737488355328 ∧ (0 < n → ∃ b o, A = some ⟨b, o, none⟩ ∧ ∀ k, k < n → w.cell? ⟨b, o + k, none⟩ = some (.int .u8 (l.getD k 0).toNat))
theorem RB.at_ {w : World} {A : Option Addr} {n : Nat} {l : List UInt8} (h : RB w A n l) {k : Nat} (hk : k < n) : ∃ b o, A = some ⟨b, o, none⟩ ∧ w.cell? ⟨b, o + k, none⟩ = some (.int .u8 (l.getD k 0).toNat) := by
  obtain ⟨_, _, h⟩ := h
  obtain ⟨b, o, hA, h⟩ := h (by omega)
  exact ⟨b, o, hA, h k hk⟩

set_option maxHeartbeats 400000 in
theorem sum_any (A : Option Addr) (n cap : Nat) (l : List UInt8) (w : World) (h : RB w A n l) :
    Calls Try.prog 12 #[.slice A n cap] w fun e w' => e = .returned (.int .u32 (crc l).toNat) ∧ w = w' := by
  have hr := fun k (hk : k < n) => h.at_ hk
  obtain ⟨hl, hn, _⟩ := h
  go_enter Try.func12, Try.ntmps12
  go_wp2
  go_loop [3, 5, 8] (fun c b i => ∃ k : Nat, k ≤ n ∧ i = .int .i64 k ∧ c = .int .u32 (crcFrom 4294967295#32 (l.take k)).toNat) (fun _ _ i => n - (intOf i).toNat)
  case atStart => exact ⟨0, by omega, rfl, rfl⟩
  case round =>
    obtain ⟨k, hk, rfl, rfl⟩ := hrel
    by_cases hlt : k < n
    · obtain ⟨b, o, rfl, hc⟩ := hr k hlt
      clear hr
      have HS := Lib.hid (crcFrom_take_succ 4294967295#32 l k (by omega))
      go_wp2
      generalize crcFrom 4294967295#32 (l.take k) = s at *
      go_loop [3, 16] (fun c i => ∃ j : Nat, j ≤ 8 ∧ i = .int .i64 j ∧ c = .int .u32 (tsteps j (s ^^^ BitVec.ofNat 32 l[k].toNat)).toNat) (fun _ i => 8 - (intOf i).toNat)
      case atStart => exact ⟨0, by omega, rfl, val_int (start_byte _ _)⟩
      case round =>
        obtain ⟨j, hj, rfl, rfl⟩ := hrel
        by_cases hlj : j < 8
        · have HT := Lib.hid (show tsteps (j + 1) (s ^^^ BitVec.ofNat 32 l[k].toNat) = tstep (tsteps j (s ^^^ BitVec.ofNat 32 l[k].toNat)) from rfl)
          generalize tsteps j (s ^^^ BitVec.ofNat 32 l[k].toNat) = t at *
          cases hb : t.getLsbD 0
          · have ht := test_false t hb
            have HB := Lib.hid (step_false t hb)
            clear hb
            go_wp2
            go_round
            case rel => exact ⟨j + 1, by omega, by go_num, by rw [HT.out]; exact val_int HB.out⟩
            case measure => simp [intOf]; omega
          · have ht := test_true t hb
            have HB := Lib.hid (step_true t hb)
            clear hb
            go_wp2
            go_round
            case rel => exact ⟨j + 1, by omega, by go_num, by rw [HT.out]; exact val_int HB.out⟩
            case measure => simp [intOf]; omega
        · obtain rfl : j = 8 := by omega
          go_wp2
          go_round
          case rel => exact ⟨k + 1, by omega, by go_num, by rw [HS.out]; rfl⟩
          case measure => simp [intOf]; omega
    · obtain rfl : k = n := by omega
      go_wp2
      go_ret
      exact ⟨by rw [u32_not, List.take_of_length_le (by omega)]; rfl, rfl⟩
end Go.Proofs.Ytgcglnohpmpnkaa
