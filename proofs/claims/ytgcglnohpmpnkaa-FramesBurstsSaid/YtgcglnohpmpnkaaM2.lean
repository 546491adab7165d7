/- Plain mathematics of the checksum: turned bits that lie within 32 neighbouring ones are told. -/
import Derived.Test.YtgcglnohpmpnkaaM1
namespace Go.Proofs.Ytgcglnohpmpnkaa

theorem tsteps_add (a b : Nat) (c : BitVec 32) : tsteps (a + b) c = tsteps a (tsteps b c) := by
  induction a with
  | zero => simp [tsteps]
  | succ a ih => rw [show a + 1 + b = (a + b) + 1 from by omega]; simp only [tsteps, ih]
theorem tstep_inj (x : BitVec 32) (h : tstep x = 0#32) : x = 0#32 := by
  unfold tstep at h
  cases hb : x.getLsbD 0
  · rw [if_neg (by rw [hb]; decide)] at h
    apply BitVec.eq_of_getLsbD_eq
    intro i hi
    cases i with
    | zero => simpa using hb
    | succ i =>
      have := congrArg (fun v => v.getLsbD i) h
      simp only [BitVec.getLsbD_ushiftRight, BitVec.getLsbD_zero] at this
      rw [Nat.add_comm 1 i] at this
      simpa using this
  · rw [if_pos hb] at h
    have h31 := congrArg (fun v => v.getLsbD 31) h
    rw [BitVec.getLsbD_xor, BitVec.getLsbD_ushiftRight] at h31
    have h1 : x.getLsbD (1 + 31) = false := BitVec.getLsbD_of_ge x _ (by omega)
    have h2 : (3988292384#32).getLsbD 31 = true := by decide
    rw [h1, h2] at h31
    simp at h31
theorem tsteps_inj (k : Nat) (x : BitVec 32) (h : tsteps k x = 0#32) : x = 0#32 := by
  induction k with
  | zero => exact h
  | succ k ih => exact ih (tstep_inj _ h)
theorem tsteps_one (i : Nat) (h : i < 32) : tsteps i (1#32 <<< i) = 1#32 := by
  have : ∀ i : Fin 32, tsteps i.val (1#32 <<< i.val) = 1#32 := by decide +kernel
  exact this ⟨i, h⟩
theorem crcFrom_xor_state (u v : BitVec 32) (l : List UInt8) : crcFrom (u ^^^ v) l = crcFrom u l ^^^ tsteps (8 * l.length) v := by
  induction l generalizing u v with
  | nil => rfl
  | cons b l ih =>
    show crcFrom (crcByte (u ^^^ v) b) l = crcFrom (crcByte u b) l ^^^ _
    have : crcByte (u ^^^ v) b = crcByte u b ^^^ tsteps 8 v := by
      unfold crcByte
      rw [← tsteps_xor]
      congr 1
      rw [BitVec.xor_assoc, BitVec.xor_assoc, BitVec.xor_comm v]
    rw [this, ih, ← tsteps_add]
    congr 1
theorem bit_steps (b : Nat) (hb : b < 8) : tsteps 8 (BitVec.ofNat 32 (2 ^ b)) = tsteps (8 - b) 1#32 := by
  have : ∀ b : Fin 8, tsteps 8 (BitVec.ofNat 32 (2 ^ b.val)) = tsteps (8 - b.val) 1#32 := by decide +kernel
  exact this ⟨b, hb⟩
/-- A byte with one bit turned. -/
def turnBit (x : UInt8) (b : Nat) : UInt8 := x ^^^ UInt8.ofNat (2 ^ b)
theorem crcByte_turn (s : BitVec 32) (x : UInt8) (b : Nat) (hb : b < 8) : crcByte s (turnBit x b) = crcByte s x ^^^ tsteps (8 - b) 1#32 := by
  have h := crcByte_xor s 0#32 x (UInt8.ofNat (2 ^ b))
  rw [BitVec.xor_zero] at h
  rw [turnBit, h]
  congr 1
  rw [crcByte, BitVec.zero_xor, ← bit_steps b hb]
  congr 2
  rw [UInt8.toNat_ofNat', Nat.mod_eq_of_lt]
  exact Nat.pow_lt_pow_right (by omega) hb
/-- One turned bit of a list turns the state by as many steps as there are bits from it on. -/
theorem crcFrom_turn (s : BitVec 32) (l : List UInt8) (i b : Nat) (hi : i < l.length) (hb : b < 8) :
    crcFrom s (l.set i (turnBit (l.getD i 0) b)) = crcFrom s l ^^^ tsteps (8 * l.length - (8 * i + b)) 1#32 := by
  have hl : l = l.take i ++ (l.getD i 0 :: l.drop (i + 1)) := by
    rw [List.getD_eq_getElem?_getD, List.getElem?_eq_getElem hi, Option.getD_some, ← List.drop_eq_getElem_cons hi, List.take_append_drop]
  have hs : l.set i (turnBit (l.getD i 0) b) = l.take i ++ (turnBit (l.getD i 0) b :: l.drop (i + 1)) := by
    rw [List.set_eq_take_append_cons_drop, if_pos hi]
  rw [hs]
  conv => rhs; rw [hl]
  rw [crcFrom_append, crcFrom_append]
  show crcFrom (crcByte _ (turnBit _ b)) _ = crcFrom (crcByte _ _) _ ^^^ _
  rw [crcByte_turn _ _ b hb, crcFrom_xor_state, ← tsteps_add]
  congr 2
  simp only [List.length_append, List.length_cons, List.length_drop, List.length_take]
  omega

/-- Is bit k of the mask turned, at place at_ + k of n bytes? -/
def sel (mask at_ n k : Nat) : Bool := mask.testBit k && decide (at_ + k < 8 * n)
def flips (mask at_ : Nat) (l : List UInt8) : Nat → List UInt8
  | 0 => l
  | k + 1 => if sel mask at_ l.length k then (flips mask at_ l k).set ((at_ + k) / 8) (turnBit ((flips mask at_ l k).getD ((at_ + k) / 8) 0) ((at_ + k) % 8)) else flips mask at_ l k
def turned (mask at_ n : Nat) : Nat → Bool
  | 0 => false
  | k + 1 => if sel mask at_ n k then true else turned mask at_ n k
def diff (mask at_ n : Nat) : Nat → BitVec 32
  | 0 => 0#32
  | k + 1 => if sel mask at_ n k then diff mask at_ n k ^^^ (1#32 <<< k) else diff mask at_ n k
theorem flips_length (mask at_ : Nat) (l : List UInt8) (k : Nat) : (flips mask at_ l k).length = l.length := by
  induction k with
  | zero => rfl
  | succ k ih =>
    rw [flips]
    split
    · rw [List.length_set, ih]
    · exact ih
theorem crcFrom_flips (s : BitVec 32) (mask at_ : Nat) (l : List UInt8) (k : Nat) (hk : k ≤ 32) (ha : at_ < 8 * l.length) :
    crcFrom s (flips mask at_ l k) = crcFrom s l ^^^ tsteps (8 * l.length - at_) (diff mask at_ l.length k) := by
  induction k with
  | zero =>
    have : ∀ n, tsteps n 0#32 = 0#32 := fun n => by
      have := tsteps_xor n 0#32 0#32
      rw [BitVec.xor_self, BitVec.xor_self] at this
      exact this
    rw [flips, diff, this, BitVec.xor_zero]
  | succ k ih =>
    have ih := ih (by omega)
    rw [flips, diff]
    split
    · rename_i hs
      have hlt : at_ + k < 8 * l.length := by
        have := (Bool.and_eq_true_iff.1 hs).2
        simpa using this
      rw [crcFrom_turn _ _ _ _ (by rw [flips_length]; omega) (by omega), ih, tsteps_xor, BitVec.xor_assoc, flips_length]
      congr 2
      rw [show 8 * l.length - at_ = (8 * l.length - (at_ + k)) + k from by omega, tsteps_add, tsteps_one k (by omega)]
      congr 1
      omega
    · exact ih
theorem diff_high (mask at_ n k j : Nat) (hj : k ≤ j) (hk : k ≤ 32) : (diff mask at_ n k).getLsbD j = false := by
  induction k generalizing j with
  | zero => simp [diff]
  | succ k ih =>
    rw [diff]
    split
    · rw [BitVec.getLsbD_xor, ih j (by omega) (by omega), BitVec.getLsbD_shiftLeft, BitVec.getLsbD_one]
      have : ¬ (j - k = 0) := by omega
      simp [this]
    · exact ih j (by omega) (by omega)
theorem diff_ne (mask at_ n k : Nat) (hk : k ≤ 32) (h : turned mask at_ n k = true) : diff mask at_ n k ≠ 0#32 := by
  induction k with
  | zero => simp [turned] at h
  | succ k ih =>
    rw [turned] at h
    rw [diff]
    split
    · intro h0
      have := congrArg (fun v => v.getLsbD k) h0
      simp only [BitVec.getLsbD_xor, diff_high mask at_ n k k (Nat.le_refl _) (by omega), BitVec.getLsbD_shiftLeft, BitVec.getLsbD_one, BitVec.getLsbD_zero] at this
      have hk32 : k < 32 := by omega
      simp [hk32] at this
    · rename_i hs
      rw [if_neg hs] at h
      exact ih (by omega) h
theorem crc_flips (mask at_ : Nat) (l : List UInt8) (ha : at_ < 8 * l.length) (h : turned mask at_ l.length 32 = true) : crc (flips mask at_ l 32) ≠ crc l := by
  intro he
  unfold crc at he
  rw [crcFrom_flips _ _ _ _ _ (Nat.le_refl _) ha] at he
  have h0 : tsteps (8 * l.length - at_) (diff mask at_ l.length 32) = 0#32 := by
    generalize crcFrom 4294967295#32 l = x at he
    generalize tsteps (8 * l.length - at_) (diff mask at_ l.length 32) = y at he ⊢
    apply BitVec.eq_of_getLsbD_eq
    intro i hi
    have := congrArg (fun v => v.getLsbD i) he
    simp only [BitVec.getLsbD_not, BitVec.getLsbD_xor, hi, decide_true, Bool.true_and] at this
    rw [BitVec.getLsbD_zero]
    cases hx : x.getLsbD i <;> cases hy : y.getLsbD i <;> simp [hx, hy] at this ⊢
  exact diff_ne _ _ _ _ (Nat.le_refl _) h (tsteps_inj _ _ h0)

theorem flips_same (mask at_ : Nat) (l : List UInt8) (k : Nat) (h : turned mask at_ l.length k = false) : flips mask at_ l k = l := by
  induction k with
  | zero => rfl
  | succ k ih =>
    rw [turned] at h
    rw [flips]
    split
    · rename_i hs
      rw [if_pos hs] at h
      cases h
    · rename_i hs
      rw [if_neg hs] at h
      exact ih h
theorem turned_succ (mask at_ n k : Nat) (h : sel mask at_ n k = true) : turned mask at_ n (k + 1) = true := by rw [turned, if_pos h]
theorem turned_skip (mask at_ n k : Nat) (h : sel mask at_ n k = false) : turned mask at_ n (k + 1) = turned mask at_ n k := by rw [turned, if_neg (by rw [h]; decide)]
/-- The head of a frame. -/
def head8 (n : Nat) (l : List UInt8) : List UInt8 := word4 (BitVec.ofNat 32 n) ++ word4 (crc l)
theorem head8_length (n : Nat) (l : List UInt8) : (head8 n l).length = 8 := rfl
theorem frame_head (l : List UInt8) : frame l = head8 l.length l ++ l := by simp [frame, head8]
theorem head_getD (n : Nat) (l f : List UInt8) (i : Nat) : (head8 n l ++ f).getD (8 + i) 0 = f.getD i 0 := by
  rw [List.getD_eq_getElem?_getD, List.getD_eq_getElem?_getD, List.getElem?_append_right (by rw [head8_length]; omega), head8_length, Nat.add_sub_cancel_left]
theorem head_set (n : Nat) (l f : List UInt8) (i : Nat) (u : UInt8) : (head8 n l ++ f).set (8 + i) u = head8 n l ++ f.set i u := by
  rw [List.set_append_right _ _ (by rw [head8_length]; omega), head8_length, Nat.add_sub_cancel_left]
theorem flips_on (mask at_ : Nat) (l : List UInt8) (k n : Nat) (hl : l.length = n) (h : sel mask at_ n k = true) :
    head8 n l ++ flips mask at_ l (k + 1) = (head8 n l ++ flips mask at_ l k).set (8 + (at_ + k) / 8) (turnBit ((head8 n l ++ flips mask at_ l k).getD (8 + (at_ + k) / 8) 0) ((at_ + k) % 8)) := by
  rw [head_getD, head_set, flips, if_pos (by rw [hl]; exact h)]
theorem flips_off (mask at_ : Nat) (l : List UInt8) (k n : Nat) (hl : l.length = n) (h : sel mask at_ n k = false) : flips mask at_ l (k + 1) = flips mask at_ l k := by
  rw [flips, if_neg (by rw [hl, h]; decide)]
theorem num_head (n : Nat) (l f : List UInt8) (hn : n < 4294967296) : num4 (head8 n l ++ f) = n := by
  rw [head8, List.append_assoc, num4_word, BitVec.toNat_ofNat]; omega
theorem drop4_head (n : Nat) (l f : List UInt8) : num4 ((head8 n l ++ f).drop 4) = (crc l).toNat := by
  rw [← num4_word (crc l) f]; rfl
theorem drop8_head (n : Nat) (l f : List UInt8) : (head8 n l ++ f).drop 8 = f := rfl

/-! The checksum of a frame, turned alone. -/
def sums (s : Nat) (l : List UInt8) : Nat → List UInt8
  | 0 => frame l
  | k + 1 => (sums s l k).set (4 + k) ((sums s l k).getD (4 + k) 0 ^^^ UInt8.ofNat (s / 2 ^ (8 * k)))
theorem sums_four (s : Nat) (l : List UInt8) : sums s l 4 = word4 (BitVec.ofNat 32 l.length) ++
    ([UInt8.ofNat ((crc l).toNat / 16777216) ^^^ UInt8.ofNat (s / 2 ^ 0), UInt8.ofNat ((crc l).toNat / 65536) ^^^ UInt8.ofNat (s / 2 ^ 8), UInt8.ofNat ((crc l).toNat / 256) ^^^ UInt8.ofNat (s / 2 ^ 16), UInt8.ofNat (crc l).toNat ^^^ UInt8.ofNat (s / 2 ^ 24)] ++ l) := rfl
theorem sums_num (s : Nat) (l : List UInt8) (h : l.length < 4294967296) : num4 (sums s l 4) = l.length := by
  rw [sums_four, num4_word, BitVec.toNat_ofNat]; omega
theorem sums_drop8 (s : Nat) (l : List UInt8) : (sums s l 4).drop 8 = l := rfl
theorem sums_ne (s : Nat) (l : List UInt8) (hs : s < 4294967296) (h0 : s ≠ 0) : num4 ((sums s l 4).drop 4) ≠ (crc l).toNat := by
  intro he
  have e : (sums s l 4).drop 4 = [UInt8.ofNat ((crc l).toNat / 16777216) ^^^ UInt8.ofNat (s / 2 ^ 0), UInt8.ofNat ((crc l).toNat / 65536) ^^^ UInt8.ofNat (s / 2 ^ 8), UInt8.ofNat ((crc l).toNat / 256) ^^^ UInt8.ofNat (s / 2 ^ 16), UInt8.ofNat (crc l).toNat ^^^ UInt8.ofNat (s / 2 ^ 24)] ++ l := rfl
  rw [e] at he
  have hw := num4_word (crc l) l
  rw [← he] at hw
  simp only [num4, word4, List.cons_append, List.nil_append, List.getD_cons_zero, List.getD_cons_succ] at hw
  have zero : ∀ a b : UInt8, (a ^^^ b).toNat = a.toNat → b.toNat = 0 := by
    intro a b hab
    have : a ^^^ b = a := UInt8.toNat_inj.1 hab
    have hb : b = 0 := by
      have h2 := congrArg (fun v => a ^^^ v) this
      simp only [← UInt8.xor_assoc, UInt8.xor_self, UInt8.zero_xor] at h2
      exact h2
    rw [hb]; rfl
  generalize UInt8.ofNat ((crc l).toNat / 16777216) = c0 at hw
  generalize UInt8.ofNat ((crc l).toNat / 65536) = c1 at hw
  generalize UInt8.ofNat ((crc l).toNat / 256) = c2 at hw
  generalize UInt8.ofNat (crc l).toNat = c3 at hw
  have a0 := c0.toNat_lt
  have a1 := c1.toNat_lt
  have a2 := c2.toNat_lt
  have a3 := c3.toNat_lt
  have z0 := zero c0 (UInt8.ofNat (s / 2 ^ 0))
  have z1 := zero c1 (UInt8.ofNat (s / 2 ^ 8))
  have z2 := zero c2 (UInt8.ofNat (s / 2 ^ 16))
  have z3 := zero c3 (UInt8.ofNat (s / 2 ^ 24))
  have b0 := (c0 ^^^ UInt8.ofNat (s / 2 ^ 0)).toNat_lt
  have b1 := (c1 ^^^ UInt8.ofNat (s / 2 ^ 8)).toNat_lt
  have b2 := (c2 ^^^ UInt8.ofNat (s / 2 ^ 16)).toNat_lt
  have b3 := (c3 ^^^ UInt8.ofNat (s / 2 ^ 24)).toNat_lt
  generalize (c0 ^^^ UInt8.ofNat (s / 2 ^ 0)).toNat = d0 at *
  generalize (c1 ^^^ UInt8.ofNat (s / 2 ^ 8)).toNat = d1 at *
  generalize (c2 ^^^ UInt8.ofNat (s / 2 ^ 16)).toNat = d2 at *
  generalize (c3 ^^^ UInt8.ofNat (s / 2 ^ 24)).toNat = d3 at *
  have y0 := z0 (by omega)
  have y1 := z1 (by omega)
  have y2 := z2 (by omega)
  have y3 := z3 (by omega)
  rw [UInt8.toNat_ofNat'] at y0 y1 y2 y3
  omega
end Go.Proofs.Ytgcglnohpmpnkaa
