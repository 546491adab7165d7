/- Plain mathematics of the checksum: one bit's step, a byte's step, the sum of a list of bytes. -/
namespace Go.Proofs.Ytgcglnohpmpnkaa

def tstep (c : BitVec 32) : BitVec 32 := if c.getLsbD 0 then (c >>> 1) ^^^ 3988292384#32 else c >>> 1
def tsteps : Nat → BitVec 32 → BitVec 32
  | 0, c => c
  | k + 1, c => tstep (tsteps k c)
def crcByte (c : BitVec 32) (b : UInt8) : BitVec 32 := tsteps 8 (c ^^^ BitVec.ofNat 32 b.toNat)
def crcFrom (c : BitVec 32) (l : List UInt8) : BitVec 32 := l.foldl crcByte c
def crc (l : List UInt8) : BitVec 32 := ~~~ crcFrom 4294967295#32 l

theorem crcFrom_append (c : BitVec 32) (l m : List UInt8) : crcFrom c (l ++ m) = crcFrom (crcFrom c l) m := List.foldl_append
theorem crcFrom_snoc (c : BitVec 32) (l : List UInt8) (b : UInt8) : crcFrom c (l ++ [b]) = crcByte (crcFrom c l) b := by
  rw [crcFrom_append]; rfl

theorem crcFrom_take_succ (c : BitVec 32) (l : List UInt8) (k : Nat) (h : k < l.length) : crcFrom c (l.take (k + 1)) = crcByte (crcFrom c (l.take k)) l[k] := by
  rw [List.take_succ_eq_append_getElem h, crcFrom_snoc]

/-! The number of four bytes, the highest first; a number as four bytes. -/
def num4 (l : List UInt8) : Nat := (l.getD 0 0).toNat * 16777216 + (l.getD 1 0).toNat * 65536 + (l.getD 2 0).toNat * 256 + (l.getD 3 0).toNat
def word4 (n : BitVec 32) : List UInt8 := [UInt8.ofNat (n.toNat / 16777216), UInt8.ofNat (n.toNat / 65536), UInt8.ofNat (n.toNat / 256), UInt8.ofNat n.toNat]
theorem num4_lt (l : List UInt8) : num4 l < 4294967296 := by
  have h0 := (l.getD 0 0).toNat_lt
  have h1 := (l.getD 1 0).toNat_lt
  have h2 := (l.getD 2 0).toNat_lt
  have h3 := (l.getD 3 0).toNat_lt
  unfold num4; omega
theorem num4_word (n : BitVec 32) (l : List UInt8) : num4 (word4 n ++ l) = n.toNat := by
  have := n.isLt
  simp only [num4, word4, List.cons_append, List.nil_append, List.getD_cons_zero, List.getD_cons_succ, UInt8.toNat_ofNat']
  omega
theorem or_bytes (b0 b1 b2 b3 : Nat) (h1 : b1 < 256) (h2 : b2 < 256) (h3 : b3 < 256) :
    ((b0 * 16777216 ||| b1 * 65536) ||| b2 * 256) ||| b3 = b0 * 16777216 + b1 * 65536 + b2 * 256 + b3 := by
  have e1 : b0 * 16777216 ||| b1 * 65536 = b0 * 16777216 + b1 * 65536 := by
    have := Nat.two_pow_add_eq_or_of_lt (i := 24) (b := b1 * 65536) (by omega) b0
    rw [Nat.mul_comm] at this; exact this.symm
  have e2 : (b0 * 16777216 + b1 * 65536) ||| b2 * 256 = b0 * 16777216 + b1 * 65536 + b2 * 256 := by
    have := Nat.two_pow_add_eq_or_of_lt (i := 16) (b := b2 * 256) (by omega) (b0 * 256 + b1)
    rw [show 2 ^ 16 * (b0 * 256 + b1) = b0 * 16777216 + b1 * 65536 from by omega] at this; exact this.symm
  have e3 : (b0 * 16777216 + b1 * 65536 + b2 * 256) ||| b3 = b0 * 16777216 + b1 * 65536 + b2 * 256 + b3 := by
    have := Nat.two_pow_add_eq_or_of_lt (i := 8) (b := b3) (by omega) (b0 * 65536 + b1 * 256 + b2)
    rw [show 2 ^ 8 * (b0 * 65536 + b1 * 256 + b2) = b0 * 16777216 + b1 * 65536 + b2 * 256 from by omega] at this; exact this.symm
  rw [e1, e2, e3]
/-- The frame of a load. -/
def frame (l : List UInt8) : List UInt8 := word4 (BitVec.ofNat 32 l.length) ++ (word4 (crc l) ++ l)
theorem frame_length (l : List UInt8) : (frame l).length = l.length + 8 := by simp [frame, word4]

/-! The checksum is affine. -/
theorem tstep_xor (x y : BitVec 32) : tstep (x ^^^ y) = tstep x ^^^ tstep y := by
  unfold tstep
  rw [BitVec.getLsbD_xor, BitVec.ushiftRight_xor_distrib]
  cases x.getLsbD 0 <;> cases y.getLsbD 0 <;> simp only [Bool.false_eq_true, Bool.xor_false, Bool.xor_true, Bool.not_true, if_true, if_false, Bool.not_false]
  · rw [BitVec.xor_assoc]
  · rw [BitVec.xor_assoc, BitVec.xor_assoc, BitVec.xor_comm (y >>> 1)]
  · rw [BitVec.xor_assoc, ← BitVec.xor_assoc (3988292384#32) (y >>> 1), BitVec.xor_comm (3988292384#32) (y >>> 1), BitVec.xor_assoc (y >>> 1), BitVec.xor_self, BitVec.xor_zero]
theorem tsteps_xor (k : Nat) (x y : BitVec 32) : tsteps k (x ^^^ y) = tsteps k x ^^^ tsteps k y := by
  induction k with
  | zero => rfl
  | succ k ih => simp only [tsteps, ih, tstep_xor]
theorem byte_xor (x y : UInt8) : BitVec.ofNat 32 (x ^^^ y).toNat = BitVec.ofNat 32 x.toNat ^^^ BitVec.ofNat 32 y.toNat := by
  apply BitVec.eq_of_toNat_eq
  have h1 := x.toNat_lt
  have h2 := y.toNat_lt
  have h3 := (x ^^^ y).toNat_lt
  rw [BitVec.toNat_xor, BitVec.toNat_ofNat, BitVec.toNat_ofNat, BitVec.toNat_ofNat, Nat.mod_eq_of_lt (by omega), Nat.mod_eq_of_lt (by omega), Nat.mod_eq_of_lt (by omega), UInt8.toNat_xor]
theorem crcByte_xor (s t : BitVec 32) (x y : UInt8) : crcByte (s ^^^ t) (x ^^^ y) = crcByte s x ^^^ crcByte t y := by
  unfold crcByte
  rw [byte_xor, ← tsteps_xor]
  congr 1
  rw [BitVec.xor_assoc, BitVec.xor_assoc, ← BitVec.xor_assoc t, BitVec.xor_comm t, BitVec.xor_assoc]
def xor3 : List UInt8 → List UInt8 → List UInt8 → Nat → List UInt8
  | _, _, _, 0 => []
  | a, b, c, k + 1 => xor3 a b c k ++ [(a.getD k 0 ^^^ b.getD k 0) ^^^ c.getD k 0]
theorem xor3_length (a b c : List UInt8) (k : Nat) : (xor3 a b c k).length = k := by
  induction k with
  | zero => rfl
  | succ k ih => simp [xor3, ih]
theorem crcFrom_take_getD (s : BitVec 32) (l : List UInt8) (k : Nat) (h : k < l.length) : crcFrom s (l.take (k + 1)) = crcByte (crcFrom s (l.take k)) (l.getD k 0) := by
  rw [crcFrom_take_succ s l k h, List.getD_eq_getElem?_getD, List.getElem?_eq_getElem h, Option.getD_some]
theorem crcFrom_xor3 (s : BitVec 32) (a b c : List UInt8) (k : Nat) (ha : k ≤ a.length) (hb : k ≤ b.length) (hc : k ≤ c.length) :
    crcFrom s (xor3 a b c k) = (crcFrom s (a.take k) ^^^ crcFrom s (b.take k)) ^^^ crcFrom s (c.take k) := by
  induction k with
  | zero => simp [xor3, crcFrom]
  | succ k ih =>
    rw [xor3, crcFrom_snoc, ih (by omega) (by omega) (by omega), crcFrom_take_getD s a k ha, crcFrom_take_getD s b k hb, crcFrom_take_getD s c k hc, crcByte_xor, crcByte_xor]
theorem crc_affine (a b c : List UInt8) (k : Nat) (ha : k ≤ a.length) (hb : k ≤ b.length) (hc : k ≤ c.length) :
    ((crc (a.take k) ^^^ crc (b.take k)) ^^^ crc (c.take k)) ^^^ crc (xor3 a b c k) = 0#32 := by
  unfold crc
  rw [crcFrom_xor3 _ a b c k ha hb hc]
  generalize crcFrom 4294967295#32 (a.take k) = x
  generalize crcFrom 4294967295#32 (b.take k) = y
  generalize crcFrom 4294967295#32 (c.take k) = z
  apply BitVec.eq_of_getLsbD_eq
  intro i hi
  simp only [BitVec.getLsbD_xor, BitVec.getLsbD_not, hi, decide_true, Bool.true_and, BitVec.getLsbD_zero]
  cases x.getLsbD i <;> cases y.getLsbD i <;> cases z.getLsbD i <;> rfl

end Go.Proofs.Ytgcglnohpmpnkaa
