/- What texts and paths may be: plain, with no program in sight. -/
import Derived.Lib.ValidLaws
import Derived.Lib.AtoiAll
import Derived.Lib.ItoaNum
import Derived.Lib.Split
import Derived.Test.YtfgjiidbafdndaaGreatDoorK1
import Derived.Test.YtfgjiidbafdndaaGreatDoorProg
import Derived.WalkKit
import Derived.WalkSpells
import Derived.WalkLawsBesides
import Derived.BigQuiet
import Derived.Lib.Hide
import Derived.Deep.QuietTactic
import Derived.Deep.DeepCutAuto
import Derived.OwnWalk
namespace Go.Proofs.YtfgjiidbafdndaaGreatDoor
open Go.Lib
set_option maxHeartbeats 4000000
set_option maxRecDepth 100000
def u8D (s : ByteArray) : Bool := validD s.data.toList
def moreD (b : Nat) : Int × Nat × Nat :=
 if b < 128 then (0, 0, 0)
 else if 194 ≤ b ∧ b ≤ 223 then (1, 128, 191)
 else if b = 224 then (2, 160, 191)
 else if b = 237 then (2, 128, 159)
 else if 225 ≤ b ∧ b ≤ 239 then (2, 128, 191)
 else if b = 240 then (3, 144, 191)
 else if b = 244 then (3, 128, 143)
 else if 241 ≤ b ∧ b ≤ 243 then (3, 128, 191)
 else (-1, 0, 0)
theorem more_first : ∀ b : Fin 256, 128 ≤ b.val → (firstT b.val % 8 = 1 ∧ moreD b.val = (-1, 0, 0)) ∨ ((firstT b.val % 8 = 2 ∨ firstT b.val % 8 = 3 ∨ firstT b.val % 8 = 4) ∧ moreD b.val = (((firstT b.val % 8 : Nat) : Int) - 1, accLo (firstT b.val / 16), accHi (firstT b.val / 16))) := by decide +kernel
theorem valid_at (l : List UInt8) (hne : l ≠ []) {n : Int} {lo hi : Nat} (hm : moreD (l.getD 0 0).toNat = (n, lo, hi)) :
  validD l = if n < 0 then false
   else if n = 0 then validD (l.drop 1)
   else if (l.length : Int) ≤ n then false
   else if (l.getD 1 0).toNat < lo ∨ hi < (l.getD 1 0).toNat then false
   else if n = 1 then validD (l.drop 2)
   else if (l.getD 2 0).toNat < 128 ∨ 191 < (l.getD 2 0).toNat then false
   else if n = 2 then validD (l.drop 3)
   else if (l.getD 3 0).toNat < 128 ∨ 191 < (l.getD 3 0).toNat then false
   else validD (l.drop 4) := by
 have hb := (l.getD 0 0).toNat_lt
 by_cases h0 : (l.getD 0 0).toNat < 128
 ·obtain ⟨rfl, rfl, rfl⟩ : n = 0 ∧ lo = 0 ∧ hi = 0 := by
   unfold moreD at hm; rw [if_pos h0] at hm; cases hm; exact ⟨rfl, rfl, rfl⟩
  rcases l with _ | ⟨b, t⟩
  ·exact absurd rfl hne
  ·rw [validD_cons b t (by simpa using h0)]; simp
 rw [validD_lead l hne (by omega)]
 generalize (l.getD 0 0).toNat = b0 at *
 generalize (l.getD 1 0).toNat = b1
 generalize (l.getD 2 0).toNat = b2
 generalize (l.getD 3 0).toNat = b3
 rcases more_first ⟨b0, by simpa using hb⟩ (by simpa using h0) with ⟨h1, h2⟩ | ⟨h1, h2⟩
 ·rw [h2] at hm; cases hm
  simp only at h1
  rw [h1]
  simp [checkN]
 ·rw [h2] at hm; cases hm
  simp only at h1 ⊢
  generalize accLo (firstT b0 / 16) = lo
  generalize accHi (firstT b0 / 16) = hi
  rcases h1 with h1 | h1 | h1 <;> rw [h1]
  ·unfold checkN
   by_cases hl : l.length < 2
   ·rw [if_pos rfl, if_pos (.inl hl)]
    rw [if_neg (by decide), if_neg (by decide), if_pos (by omega)]
   ·by_cases hx : b1 < lo ∨ hi < b1
    ·rw [if_pos rfl, if_pos (.inr hx), if_neg (by decide), if_neg (by decide), if_neg (by omega), if_pos hx]
    ·rw [if_pos rfl, if_neg (by omega), if_neg (by decide), if_neg (by decide), if_neg (by omega), if_neg hx, if_pos (by decide)]
  ·unfold checkN
   by_cases hl : l.length < 3
   ·rw [if_neg (by decide), if_pos rfl, if_pos (.inl hl)]
    rw [if_neg (by decide), if_neg (by decide), if_pos (by omega)]
   ·by_cases hx : b1 < lo ∨ hi < b1
    ·rw [if_neg (by decide), if_pos rfl, if_pos (by omega), if_neg (by decide), if_neg (by decide), if_neg (by omega), if_pos hx]
    ·by_cases hy : b2 < 128 ∨ 191 < b2
     ·rw [if_neg (by decide), if_pos rfl, if_pos (by omega), if_neg (by decide), if_neg (by decide), if_neg (by omega), if_neg hx, if_neg (by decide), if_pos hy]
     ·rw [if_neg (by decide), if_pos rfl, if_neg (by omega), if_neg (by decide), if_neg (by decide), if_neg (by omega), if_neg hx, if_neg (by decide), if_neg hy, if_pos (by decide)]
  ·unfold checkN
   by_cases hl : l.length < 4
   ·rw [if_neg (by decide), if_neg (by decide), if_pos rfl, if_pos (.inl hl)]
    rw [if_neg (by decide), if_neg (by decide), if_pos (by omega)]
   ·by_cases hx : b1 < lo ∨ hi < b1
    ·rw [if_neg (by decide), if_neg (by decide), if_pos rfl, if_pos (by omega), if_neg (by decide), if_neg (by decide), if_neg (by omega), if_pos hx]
    ·by_cases hy : b2 < 128 ∨ 191 < b2
     ·rw [if_neg (by decide), if_neg (by decide), if_pos rfl, if_pos (by omega), if_neg (by decide), if_neg (by decide), if_neg (by omega), if_neg hx, if_neg (by decide), if_pos hy]
     ·by_cases hz : b3 < 128 ∨ 191 < b3
      ·rw [if_neg (by decide), if_neg (by decide), if_pos rfl, if_pos (by omega), if_neg (by decide), if_neg (by decide), if_neg (by omega), if_neg hx, if_neg (by decide), if_neg hy, if_neg (by decide), if_pos hz]
      ·rw [if_neg (by decide), if_neg (by decide), if_pos rfl, if_neg (by omega), if_neg (by decide), if_neg (by decide), if_neg (by omega), if_neg hx, if_neg (by decide), if_neg hy, if_neg (by decide), if_neg hz]
def BadC (l : List UInt8) : Prop := (decodeL l).1 = 65533 ∧ (decodeL l).2 = 1
instance (l : List UInt8) : Decidable (BadC l) := inferInstanceAs (Decidable (_ ∧ _))
def charD (l : List UInt8) : Int × Nat := if BadC l then (-1, 1) else ((decodeL l).1, (decodeL l).2)
def contB (b : Nat) : Prop := 128 ≤ b ∧ b < 192
instance (b : Nat) : Decidable (contB b) := inferInstanceAs (Decidable (_ ∧ _))
def endC (r : Int) (n least : Nat) : Int × Nat := if r < least ∨ r > 1114111 ∨ (r ≥ 55296 ∧ r ≤ 57343) then (-1, 1) else (r, n)
def charN (n b0 b1 b2 b3 : Nat) : Int × Nat :=
 if b0 < 128 then (b0, 1)
 else if 192 ≤ b0 ∧ b0 < 224 then
  (if 1 < n ∧ contB b1 then endC (64 * (b0 - 192 : Int) + b1 - 128) 2 128 else (-1, 1))
 else if 224 ≤ b0 ∧ b0 < 240 then
  (if 1 < n ∧ contB b1 ∧ 2 < n ∧ contB b2 then endC (64 * (64 * (b0 - 224 : Int) + b1 - 128) + b2 - 128) 3 2048 else (-1, 1))
 else if 240 ≤ b0 ∧ b0 < 248 then
  (if 1 < n ∧ contB b1 ∧ 2 < n ∧ contB b2 ∧ 3 < n ∧ contB b3 then endC (64 * (64 * (64 * (b0 - 240 : Int) + b1 - 128) + b2 - 128) + b3 - 128) 4 65536 else (-1, 1))
 else (-1, 1)
theorem char_decode (n b0 b1 b2 b3 : Nat) (h0 : b0 < 256) (h1 : b1 < 256) (h2 : b2 < 256) (h3 : b3 < 256) :
  charN n b0 b1 b2 b3 = if (decodeN n b0 b1 b2 b3).1 = 65533 ∧ (decodeN n b0 b1 b2 b3).2 = 1 then (-1, 1) else (((decodeN n b0 b1 b2 b3).1 : Int), (decodeN n b0 b1 b2 b3).2) := by
 have bad : decodeN n b0 b1 b2 b3 = (65533, 1) → ((-1, 1) : Int × Nat) = if (decodeN n b0 b1 b2 b3).1 = 65533 ∧ (decodeN n b0 b1 b2 b3).2 = 1 then (-1, 1) else (((decodeN n b0 b1 b2 b3).1 : Int), (decodeN n b0 b1 b2 b3).2) := fun h => by
  rw [h]; simp
 have good : ∀ x k, decodeN n b0 b1 b2 b3 = (x, k) → ¬ (x = 65533 ∧ k = 1) → (((x : Nat) : Int), k) = if (decodeN n b0 b1 b2 b3).1 = 65533 ∧ (decodeN n b0 b1 b2 b3).2 = 1 then (-1, 1) else (((decodeN n b0 b1 b2 b3).1 : Int), (decodeN n b0 b1 b2 b3).2) := fun x k h hn => by
  rw [h]; simp only; rw [if_neg hn]
 have endG : ∀ (r : Int) (x k least : Nat), r = x → ¬ (x < least ∨ x > 1114111 ∨ (x ≥ 55296 ∧ x ≤ 57343)) → endC r k least = ((x : Int), k) := fun r x k least h hn => by
  subst h; unfold endC; rw [if_neg (by omega)]
 have endB : ∀ (r : Int) (x k least : Nat), r = x → (x < least ∨ x > 1114111 ∨ (x ≥ 55296 ∧ x ≤ 57343)) → endC r k least = (-1, 1) := fun r x k least h hn => by
  subst h; unfold endC; rw [if_pos (by omega)]
 unfold charN
 by_cases c0 : b0 < 128
 ·have : decodeN n b0 b1 b2 b3 = (b0, 1) := by unfold decodeN; rw [if_pos c0]
  rw [if_pos c0]
  exact good _ _ this (by omega)
 rw [if_neg c0]
 by_cases c1 : 192 ≤ b0 ∧ b0 < 224
 ·rw [if_pos c1]
  by_cases d : 1 < n ∧ contB b1
  ·rw [if_pos d]
   unfold contB at d
   by_cases e : b0 % 32 * 64 + b1 % 64 ≥ 128
   ·rw [endG _ (b0 % 32 * 64 + b1 % 64) 2 128 (by omega) (by omega)]
    exact good _ _ (by unfold decodeN; rw [if_neg c0, if_pos (by omega), if_pos e]) (by omega)
   ·rw [endB _ (b0 % 32 * 64 + b1 % 64) 2 128 (by omega) (by omega)]
    exact bad (by unfold decodeN; rw [if_neg c0, if_pos (by omega), if_neg e])
  ·rw [if_neg d]
   unfold contB at d
   exact bad (by unfold decodeN; rw [if_neg c0, if_neg (by omega), if_neg (by omega), if_neg (by omega)])
 rw [if_neg c1]
 by_cases c2 : 224 ≤ b0 ∧ b0 < 240
 ·rw [if_pos c2]
  by_cases d : 1 < n ∧ contB b1 ∧ 2 < n ∧ contB b2
  ·rw [if_pos d]
   unfold contB at d
   obtain ⟨x, hx⟩ : ∃ x, b0 % 16 * 4096 + b1 % 64 * 64 + b2 % 64 = x := ⟨_, rfl⟩
   have hr : 64 * (64 * (b0 - 224 : Int) + b1 - 128) + b2 - 128 = (x : Int) := by omega
   by_cases e : x ≥ 2048 ∧ (x < 55296 ∨ (57344 ≤ x ∧ x ≤ 1114111))
   ·rw [endG _ x 3 2048 hr (by omega)]
    exact good _ _ (by unfold decodeN; rw [if_neg c0, if_neg (by omega), if_pos (by omega), hx, if_pos e]) (by omega)
   ·rw [endB _ x 3 2048 hr (by omega)]
    exact bad (by unfold decodeN; rw [if_neg c0, if_neg (by omega), if_pos (by omega), hx, if_neg e])
  ·rw [if_neg d]
   unfold contB at d
   exact bad (by unfold decodeN; rw [if_neg c0, if_neg (by omega), if_neg (by omega), if_neg (by omega)])
 rw [if_neg c2]
 by_cases c3 : 240 ≤ b0 ∧ b0 < 248
 ·rw [if_pos c3]
  by_cases d : 1 < n ∧ contB b1 ∧ 2 < n ∧ contB b2 ∧ 3 < n ∧ contB b3
  ·rw [if_pos d]
   unfold contB at d
   obtain ⟨x, hx⟩ : ∃ x, b0 % 8 * 262144 + b1 % 64 * 4096 + b2 % 64 * 64 + b3 % 64 = x := ⟨_, rfl⟩
   have hr : 64 * (64 * (64 * (b0 - 240 : Int) + b1 - 128) + b2 - 128) + b3 - 128 = (x : Int) := by omega
   by_cases e : x ≥ 65536 ∧ (x < 55296 ∨ (57344 ≤ x ∧ x ≤ 1114111))
   ·rw [endG _ x 4 65536 hr (by omega)]
    exact good _ _ (by unfold decodeN; rw [if_neg c0, if_neg (by omega), if_neg (by omega), if_pos (by omega), hx, if_pos e]) (by omega)
   ·rw [endB _ x 4 65536 hr (by omega)]
    exact bad (by unfold decodeN; rw [if_neg c0, if_neg (by omega), if_neg (by omega), if_pos (by omega), hx, if_neg e])
  ·rw [if_neg d]
   unfold contB at d
   exact bad (by unfold decodeN; rw [if_neg c0, if_neg (by omega), if_neg (by omega), if_neg (by omega)])
 ·rw [if_neg c3]
  exact bad (by unfold decodeN; rw [if_neg c0, if_neg (by omega), if_neg (by omega), if_neg (by omega)])
theorem charN_eq (l : List UInt8) : charN l.length (l.getD 0 0).toNat (l.getD 1 0).toNat (l.getD 2 0).toNat (l.getD 3 0).toNat = charD l := by
 rw [char_decode _ _ _ _ _ (l.getD 0 0).toNat_lt (l.getD 1 0).toNat_lt (l.getD 2 0).toNat_lt (l.getD 3 0).toNat_lt, ← decodeL_N]
 rfl
theorem decode_high (l : List UInt8) (h : 128 ≤ (l.getD 0 0).toNat) : 128 ≤ (decodeL l).1 ∧ ∀ i, i < (decodeL l).2 → 128 ≤ (l.getD i 0).toNat := by
 rw [decodeL_N]
 have key : ∀ n b0 b1 b2 b3 : Nat, 128 ≤ b0 → 128 ≤ (decodeN n b0 b1 b2 b3).1 ∧ (decodeN n b0 b1 b2 b3).2 ≤ 4 ∧ (1 < (decodeN n b0 b1 b2 b3).2 → 128 ≤ b1) ∧ (2 < (decodeN n b0 b1 b2 b3).2 → 128 ≤ b2) ∧ (3 < (decodeN n b0 b1 b2 b3).2 → 128 ≤ b3) := fun n b0 b1 b2 b3 h0 => by
  unfold decodeN
  rw [if_neg (by omega)]
  repeat' split
  all_goals (simp only; omega)
 obtain ⟨k1, k2, k3, k4, k5⟩ := key l.length (l.getD 0 0).toNat (l.getD 1 0).toNat (l.getD 2 0).toNat (l.getD 3 0).toNat h
 refine ⟨k1, fun i hi => ?_⟩
 obtain rfl | rfl | rfl | rfl : i = 0 ∨ i = 1 ∨ i = 2 ∨ i = 3 := by omega
 ·exact h
 ·exact k3 hi
 ·exact k4 hi
 ·exact k5 hi
theorem bad_prefix (l : List UInt8) (h : (decodeL l).1 = 65533) : BadC l ↔ ¬ (2 < l.length ∧ l.getD 0 0 = 239 ∧ l.getD 1 0 = 191 ∧ l.getD 2 0 = 189) := by
 have e : ∀ (x : UInt8) (k : Nat) (hk : k < 256), x = UInt8.ofNat k ↔ x.toNat = k := fun x k hk => ⟨fun h => by rw [h]; simp [UInt8.toNat_ofNat']; omega, fun h => by apply UInt8.toNat_inj.1; rw [h]; simp [UInt8.toNat_ofNat']; omega⟩
 have e0 := e (l.getD 0 0) 239 (by decide)
 have e1 := e (l.getD 1 0) 191 (by decide)
 have e2 := e (l.getD 2 0) 189 (by decide)
 unfold BadC
 rw [show (239 : UInt8) = UInt8.ofNat 239 by rfl, show (191 : UInt8) = UInt8.ofNat 191 by rfl, show (189 : UInt8) = UInt8.ofNat 189 by rfl, e0, e1, e2]
 rw [decodeL_N] at h ⊢
 have h0 := (l.getD 0 0).toNat_lt
 have h1 := (l.getD 1 0).toNat_lt
 have h2 := (l.getD 2 0).toNat_lt
 have h3 := (l.getD 3 0).toNat_lt
 generalize (l.getD 0 0).toNat = b0 at *
 generalize (l.getD 1 0).toNat = b1 at *
 generalize (l.getD 2 0).toNat = b2 at *
 generalize (l.getD 3 0).toNat = b3 at *
 generalize l.length = n at *
 clear e e0 e1 e2
 unfold decodeN at h ⊢
 by_cases c0 : b0 < 128
 ·rw [if_pos c0] at h ⊢; simp only at h; omega
 rw [if_neg c0] at h ⊢
 by_cases c1 : b0 / 32 = 6 ∧ (1 < n ∧ b1 / 64 = 2)
 ·rw [if_pos c1] at h ⊢; split at h <;> rename_i hq
  ·simp only at h; omega
  ·rw [if_neg hq]; simp only [true_and, true_iff]; omega
 rw [if_neg c1] at h ⊢
 by_cases c2 : b0 / 16 = 14 ∧ (1 < n ∧ b1 / 64 = 2) ∧ (2 < n ∧ b2 / 64 = 2)
 ·rw [if_pos c2] at h ⊢; split at h <;> rename_i hq
  ·rw [if_pos hq]; simp only at h ⊢; omega
  ·rw [if_neg hq]; simp only [true_and, true_iff]; omega
 rw [if_neg c2] at h ⊢
 by_cases c3 : b0 / 8 = 30 ∧ (1 < n ∧ b1 / 64 = 2) ∧ (2 < n ∧ b2 / 64 = 2) ∧ (3 < n ∧ b3 / 64 = 2)
 ·rw [if_pos c3] at h ⊢; split at h <;> rename_i hq
  ·simp only at h; omega
  ·rw [if_neg hq]; simp only [true_and, true_iff]; omega
 rw [if_neg c3] at h ⊢
 simp only [true_and, true_iff]; omega
def kindD (r : Int) : Int :=
 if r < 0 ∨ r > 1114111 then 0
 else if r = 0 then 2
 else if r ≤ 31 ∨ (r ≥ 127 ∧ r ≤ 159) then 3
 else if r ≥ 55296 ∧ r ≤ 57343 then 4
 else if r ≥ 57344 ∧ r ≤ 63743 then 5
 else if r ≥ 65520 ∧ r ≤ 65535 then 6
 else if r ≥ 65536 then 7
 else 1
def PlainC (l : List UInt8) : Prop := ¬ BadC l ∧ kindD (decodeL l).1 = 1
instance (l : List UInt8) : Decidable (PlainC l) := inferInstanceAs (Decidable (_ ∧ _))
def seg (l : List UInt8) : List UInt8 := l.takeWhile (· ≠ 47)
def SegOk (l : List UInt8) : Prop := seg l ≠ [46] ∧ seg l ≠ [46, 46]
instance (l : List UInt8) : Decidable (SegOk l) := inferInstanceAs (Decidable (_ ∧ _))
def pathGo : Nat → Bool → List UInt8 → Bool
 | 0, _, _ => true
 | n + 1, sl, l => if l = [] then true
  else if l.getD 0 0 = 47 then !sl && decide (SegOk (l.drop 1)) && pathGo n true (l.drop 1)
  else decide (PlainC l) && pathGo n false (l.drop (decodeL l).2)
def pathD (s : ByteArray) : Bool :=
 decide (0 < s.size ∧ s.size ≤ 4096 ∧ s.get! 0 = 47) && (decide (s.size = 1) || (decide (s.get! (s.size - 1) ≠ 47) && pathGo s.size false s.data.toList))
def firstAt : Nat → Nat → List UInt8 → Int
 | 0, _, _ => -1
 | n + 1, i, l => if l = [] then -1 else if PlainC l then firstAt n (i + (decodeL l).2) (l.drop (decodeL l).2) else i
def badB (b : UInt8) : Bool := decide (b.toNat < 33) || decide (b.toNat = 127) || decide (b.toNat = 44)
def badR (r : Nat) : Bool := decide (r < 33) || decide (r = 127) || decide (r = 44)
def runesGo : Nat → List UInt8 → Bool
 | 0, _ => true
 | n + 1, l => if l = [] then true else if badR (decodeL l).1 then false else runesGo n (l.drop (decodeL l).2)
theorem runesGo_eq : ∀ (n : Nat) (l : List UInt8), l.length ≤ n → runesGo n l = l.all fun b => !badB b
 | 0, l, h => by
  obtain rfl : l = [] := List.eq_nil_of_length_eq_zero (by omega)
  rfl
 | n + 1, [], _ => by simp [runesGo]
 | n + 1, b :: t, h => by
  rw [runesGo, if_neg (by simp)]
  by_cases hb : b.toNat < 128
  ·rw [decodeL_ascii b t hb, List.drop_succ_cons, List.drop_zero, runesGo_eq n t (by simpa using h), List.all_cons]
   show (if badR b.toNat = true then false else _) = (!badB b && _)
   rw [show badB b = badR b.toNat from rfl]
   cases badR b.toNat <;> simp
  ·obtain ⟨h1, h2⟩ := decode_high (b :: t) (by simpa using hb)
   have hw := decodeL_width (b :: t)
   have hr : badR (decodeL (b :: t)).1 = false := by simp [badR]; omega
   rw [hr, if_neg (by simp), runesGo_eq n _ (by rw [List.length_drop]; simp at h ⊢; omega)]
   conv => rhs; rw [← List.take_append_drop (decodeL (b :: t)).2 (b :: t), List.all_append]
   have : ((b :: t).take (decodeL (b :: t)).2).all (fun b => !badB b) = true := by
    rw [List.all_eq_true]
    intro x hx
    obtain ⟨i, hi, rfl⟩ := List.mem_iff_getElem.1 hx
    have hi' : i < (decodeL (b :: t)).2 ∧ i < (b :: t).length := by rw [List.length_take] at hi; omega
    have := h2 i hi'.1
    rw [List.getElem_take]
    rw [List.getD_eq_getElem?_getD, List.getElem?_eq_getElem hi'.2, Option.getD_some] at this
    simp [badB]; omega
   rw [this, Bool.true_and]
def textL (l : List UInt8) : Bool := decide (0 < l.length ∧ l.length ≤ 256) && validD l && l.all fun b => !badB b
def upTo (c : UInt8) (l : List UInt8) : List UInt8 := l.takeWhile (· ≠ c)
theorem upTo_cons (c b : UInt8) (l : List UInt8) : upTo c (b :: l) = if b = c then [] else b :: upTo c l := by
 unfold upTo
 rw [List.takeWhile_cons]
 by_cases h : b = c <;> simp [h]
theorem upTo_le (c : UInt8) (l : List UInt8) : (upTo c l).length ≤ l.length := (List.takeWhile_prefix _).length_le
theorem upTo_take (c : UInt8) (l : List UInt8) : l.take (upTo c l).length = upTo c l := (List.prefix_iff_eq_take.1 (List.takeWhile_prefix _)).symm
theorem upTo_index (c : UInt8) : ∀ l : List UInt8, indexByte l c = if (upTo c l).length < l.length then ((upTo c l).length : Int) else -1
 | [] => by simp [indexByte, upTo]
 | b :: l => by
  unfold indexByte
  rw [upTo_cons, upTo_index c l]
  by_cases h : b = c
  ·simp [h]
  ·have hl := upTo_le c l
   rw [if_neg (by simpa using h), if_neg h]
   by_cases h2 : (upTo c l).length < l.length
   ·rw [if_pos h2, if_neg (by simp), if_pos (by simpa using h2)]; simp
   ·rw [if_neg h2, if_pos (by decide), if_neg (by simpa using h2)]
def digB (b : UInt8) : Prop := 48 ≤ b.toNat ∧ b.toNat ≤ 57
instance (b : UInt8) : Decidable (digB b) := inferInstanceAs (Decidable (_ ∧ _))
def numGo (acc : Int) : List UInt8 → Int
 | [] => if 255 < acc then -1 else acc
 | b :: t => if digB b then numGo (10 * acc + (b.toNat - 48)) t else -1
def numD (l : List UInt8) : Int := if l.length < 1 ∨ 3 < l.length ∨ (1 < l.length ∧ l.getD 0 0 = 48) then -1 else numGo 0 l
def numA (l : List UInt8) : Int := match atoiAll l with
 | .ok v => if v < 0 ∨ 255 < v ∨ itoa v ≠ l then -1 else v
 | _ => -1
theorem dec1 {u : Nat} (h : u < 10) : decDigits u = [UInt8.ofNat (48 + u)] := by rw [decDigits, dif_pos h]
theorem dec2 {u : Nat} (h : ¬ u < 10) : decDigits u = decDigits (u / 10) ++ [UInt8.ofNat (48 + u % 10)] := by rw [decDigits, dif_neg h]
theorem num_itoa (v : Nat) (hv : v ≤ 255) : numD (itoa v) = v := by
 have e : itoa v = decDigits v := by unfold itoa; rw [if_neg (by omega)]; simp
 rw [e]
 by_cases h1 : v < 10
 ·rw [dec1 h1]
  have : ∀ u : Fin 10, numD [UInt8.ofNat (48 + u.val)] = u.val := by decide +kernel
  exact this ⟨v, h1⟩
 rw [dec2 h1]
 by_cases h2 : v < 100
 ·rw [dec1 (u := v / 10) (by omega)]
  have : ∀ a b : Fin 10, a.val ≠ 0 → numD ([UInt8.ofNat (48 + a.val)] ++ [UInt8.ofNat (48 + b.val)]) = 10 * a.val + b.val := by decide +kernel
  have := this ⟨v / 10, by omega⟩ ⟨v % 10, by omega⟩ (by show v / 10 ≠ 0; omega)
  simp only at this
  rw [this]; omega
 ·rw [dec2 (u := v / 10) (by omega), dec1 (u := v / 10 / 10) (by omega)]
  have : ∀ a b c : Fin 10, a.val ≠ 0 → 100 * a.val + 10 * b.val + c.val ≤ 255 → numD ([UInt8.ofNat (48 + a.val)] ++ [UInt8.ofNat (48 + b.val)] ++ [UInt8.ofNat (48 + c.val)]) = 100 * a.val + 10 * b.val + c.val := by decide +kernel
  have := this ⟨v / 10 / 10, by omega⟩ ⟨v / 10 % 10, by omega⟩ ⟨v % 10, by omega⟩ (by show v / 10 / 10 ≠ 0; omega) (by simp only; omega)
  simp only at this
  rw [this]; omega
theorem dig_of (b : UInt8) (h : digB b) : ∃ d : Fin 10, b = UInt8.ofNat (48 + d.val) := ⟨⟨b.toNat - 48, by unfold digB at h; omega⟩, by
 apply UInt8.toNat_inj.1
 unfold digB at h
 simp [UInt8.toNat_ofNat']; omega⟩
theorem numA_eq (l : List UInt8) : numA l = numD l := by
 by_cases h : numD l = -1
 ·unfold numA
  rw [h]
  split
  ·rename_i v hv
   by_cases hb : v < 0 ∨ 255 < v ∨ itoa v ≠ l
   ·rw [if_pos hb]
   ·exfalso
    obtain ⟨n, rfl⟩ : ∃ n : Nat, v = n := ⟨v.toNat, by omega⟩
    have : itoa n = l := by
     by_cases e : itoa n = l
     ·exact e
     ·exact absurd (.inr (.inr e)) hb
    rw [← this, num_itoa n (by omega)] at h
    omega
  ·rfl
 ·have k1 : ∀ a : Fin 10, numA [UInt8.ofNat (48 + a.val)] = numD [UInt8.ofNat (48 + a.val)] := fun a => by
   have e : ∀ u : Fin 10, atoiAll [UInt8.ofNat (48 + u.val)] = .ok u.val := by decide +kernel
   have f : ∀ u : Fin 10, numD [UInt8.ofNat (48 + u.val)] = u.val := by decide +kernel
   unfold numA
   rw [e, f]
   simp only
   rw [if_neg]
   have : itoa (a.val : Int) = [UInt8.ofNat (48 + a.val)] := by unfold itoa; rw [if_neg (by omega)]; simp [dec1 a.isLt]
   rw [this]; simp; omega
  have k2 : ∀ a b : Fin 10, a.val ≠ 0 → numA [UInt8.ofNat (48 + a.val), UInt8.ofNat (48 + b.val)] = numD [UInt8.ofNat (48 + a.val), UInt8.ofNat (48 + b.val)] := fun a b ha => by
   have e : ∀ a b : Fin 10, atoiAll [UInt8.ofNat (48 + a.val), UInt8.ofNat (48 + b.val)] = .ok (10 * a.val + b.val) := by decide +kernel
   have f : ∀ a b : Fin 10, a.val ≠ 0 → numD [UInt8.ofNat (48 + a.val), UInt8.ofNat (48 + b.val)] = 10 * a.val + b.val := by decide +kernel
   unfold numA
   rw [e, f a b ha]
   simp only
   rw [if_neg]
   have : itoa (10 * (a.val : Int) + b.val) = [UInt8.ofNat (48 + a.val), UInt8.ofNat (48 + b.val)] := by
    unfold itoa
    rw [if_neg (by omega), show (10 * (a.val : Int) + b.val).toNat = 10 * a.val + b.val by omega, dec2 (by omega), dec1 (by omega), show (10 * a.val + b.val) / 10 = a.val by omega, show (10 * a.val + b.val) % 10 = b.val by omega]; rfl
   rw [this]; simp; omega
  have k3 : ∀ a b c : Fin 10, a.val ≠ 0 → 100 * a.val + 10 * b.val + c.val ≤ 255 → numA [UInt8.ofNat (48 + a.val), UInt8.ofNat (48 + b.val), UInt8.ofNat (48 + c.val)] = numD [UInt8.ofNat (48 + a.val), UInt8.ofNat (48 + b.val), UInt8.ofNat (48 + c.val)] := fun a b c ha hc => by
   have e : ∀ a b c : Fin 10, atoiAll [UInt8.ofNat (48 + a.val), UInt8.ofNat (48 + b.val), UInt8.ofNat (48 + c.val)] = .ok (100 * a.val + 10 * b.val + c.val) := by decide +kernel
   have f : ∀ a b c : Fin 10, a.val ≠ 0 → 100 * a.val + 10 * b.val + c.val ≤ 255 → numD [UInt8.ofNat (48 + a.val), UInt8.ofNat (48 + b.val), UInt8.ofNat (48 + c.val)] = 100 * a.val + 10 * b.val + c.val := by decide +kernel
   unfold numA
   rw [e, f a b c ha hc]
   simp only
   rw [if_neg]
   have : itoa (100 * (a.val : Int) + 10 * b.val + c.val) = [UInt8.ofNat (48 + a.val), UInt8.ofNat (48 + b.val), UInt8.ofNat (48 + c.val)] := by
    unfold itoa
    rw [if_neg (by omega), show (100 * (a.val : Int) + 10 * b.val + c.val).toNat = 100 * a.val + 10 * b.val + c.val by omega, dec2 (by omega), dec2 (by omega), dec1 (by omega), show (100 * a.val + 10 * b.val + c.val) / 10 / 10 = a.val by omega,
     show (100 * a.val + 10 * b.val + c.val) / 10 % 10 = b.val by omega, show (100 * a.val + 10 * b.val + c.val) % 10 = c.val by omega]; rfl
   rw [this]; simp; omega
  have f3 : ∀ a b c : Fin 10, a.val ≠ 0 → 255 < 100 * a.val + 10 * b.val + c.val → numD [UInt8.ofNat (48 + a.val), UInt8.ofNat (48 + b.val), UInt8.ofNat (48 + c.val)] = -1 := by decide +kernel
  have f0 : ∀ b : Fin 10, ∀ t : List UInt8, t ≠ [] → numD (UInt8.ofNat (48 + b.val) :: t) ≠ -1 → b.val ≠ 0 := fun b t ht hn hb => by
   apply hn
   unfold numD
   rw [if_pos]
   refine .inr (.inr ⟨?_, ?_⟩)
   ·cases t
    ·exact absurd rfl ht
    ·simp
   ·rw [hb]; rfl
  have hlen : 1 ≤ l.length ∧ l.length ≤ 3 := by
   unfold numD at h
   split at h
   ·exact absurd rfl h
   ·omega
  have hg : numGo 0 l ≠ -1 := by
   intro hc
   apply h
   unfold numD
   split
   ·rfl
   ·exact hc
  have dg : ∀ (t : List UInt8) (acc : Int), numGo acc t ≠ -1 → ∀ b ∈ t, digB b := fun t => by
   induction t with
   | nil => intro _ _ b hb; cases hb
   | cons x t ih =>
    intro acc hn b hb
    unfold numGo at hn
    by_cases hx : digB x
    ·rw [if_pos hx] at hn
     rcases List.mem_cons.1 hb with rfl | hb
     ·exact hx
     ·exact ih _ hn b hb
    ·rw [if_neg hx] at hn; exact absurd rfl hn
  have hd := dg l 0 hg
  match l, hlen, hd with
  | [a], _, hd =>
   obtain ⟨x, rfl⟩ := dig_of a (hd _ (by simp))
   exact k1 x
  | [a, b], _, hd =>
   obtain ⟨x, rfl⟩ := dig_of a (hd _ (by simp))
   obtain ⟨y, rfl⟩ := dig_of b (hd _ (by simp))
   exact k2 x y (f0 x _ (by simp) h)
  | [a, b, c], _, hd =>
   obtain ⟨x, rfl⟩ := dig_of a (hd _ (by simp))
   obtain ⟨y, rfl⟩ := dig_of b (hd _ (by simp))
   obtain ⟨z, rfl⟩ := dig_of c (hd _ (by simp))
   have hx := f0 x _ (by simp) h
   by_cases hc : 100 * x.val + 10 * y.val + z.val ≤ 255
   ·exact k3 x y z hx hc
   ·exact absurd (f3 x y z hx (by omega)) h
  | [], hl, _ => exact absurd hl.1 (by simp)
  | _ :: _ :: _ :: _ :: _, hl, _ => exact absurd hl.2 (by simp)
def addrGo : Nat → List UInt8 → Bool
 | 0, l => decide ((upTo 46 l).length = l.length) && decide (0 ≤ numD (upTo 46 l))
 | k + 1, l => decide ((upTo 46 l).length < l.length) && decide (0 ≤ numD (upTo 46 l)) && addrGo k (l.drop ((upTo 46 l).length + 1))
def addrL (l : List UInt8) : Bool := addrGo 3 l
theorem addr_split : ∀ (k m : Nat) (l : List UInt8), l.length < m → (decide ((splitK [46] 0 (countFrom [46] m l) l).length = k + 1) && (splitK [46] 0 (countFrom [46] m l) l).all fun p => decide (0 ≤ numA p)) = addrGo k l
 | k, 0, l, h => absurd h (Nat.not_lt_zero _)
 | k, m + 1, l, h => by
  have hle := upTo_le 46 l
  have hix := upTo_index 46 l
  unfold countFrom
  rw [index_one, hix]
  by_cases h1 : (upTo 46 l).length < l.length
  ·rw [if_pos h1, if_neg (by simp)]
   show (decide ((splitK [46] 0 (1 + _) l).length = k + 1) && _) = _
   rw [Nat.add_comm 1, splitK, index_one, hix, if_pos h1, if_neg (by simp)]
   simp only [Int.toNat_natCast, Nat.add_zero, List.length_cons, List.all_cons, List.length_nil, Nat.zero_add]
   rw [upTo_take, numA_eq]
   cases k with
   | zero =>
    rw [addrGo, decide_eq_false (p := (upTo 46 l).length = l.length) (by omega), Bool.false_and, decide_eq_false, Bool.false_and]
    intro hc
    have hnil : ∀ (q : Nat) (x : List UInt8), (splitK [46] 0 q x).length ≠ 0 := fun q x => by
     cases q with
     | zero => simp [splitK]
     | succ q => unfold splitK; split <;> simp
    exact hnil _ _ (Nat.succ.inj hc)
   | succ k =>
    rw [addrGo, decide_eq_true h1, Bool.true_and, ← addr_split k m (l.drop ((upTo 46 l).length + 1)) (by rw [List.length_drop]; omega)]
    simp only [Nat.add_right_cancel_iff]
    cases decide (0 ≤ numD (upTo 46 l)) <;> simp
  ·rw [if_neg h1, if_pos (by decide)]
   have hlt : upTo 46 l = l := by rw [← upTo_take, show (upTo 46 l).length = l.length by omega, List.take_length]
   simp only [splitK, List.length_singleton, List.all_cons, List.all_nil, Bool.and_true, numA_eq]
   cases k with
   | zero => rw [addrGo, hlt]; simp
   | succ k => rw [addrGo, hlt]; simp
theorem addr_lib (l : List UInt8) : (decide ((split l [46]).length = 4) && (split l [46]).all fun p => decide (0 ≤ numA p)) = addrL l := addr_split 3 _ l (Nat.lt_succ_self _)
def addrB (b : UInt8) : Prop := digB b ∨ b = 46
theorem num_bytes (l : List UInt8) (h : 0 ≤ numD l) : 0 < l.length ∧ l.length ≤ 3 ∧ ∀ b ∈ l, digB b := by
 unfold numD at h
 split at h
 ·omega
 ·rename_i hn
  refine ⟨by omega, by omega, ?_⟩
  have dg : ∀ (t : List UInt8) (acc : Int), 0 ≤ numGo acc t → ∀ b ∈ t, digB b := fun t => by
   induction t with
   | nil => intro _ _ b hb; cases hb
   | cons x t ih =>
    intro acc hn b hb
    unfold numGo at hn
    by_cases hx : digB x
    ·rw [if_pos hx] at hn
     rcases List.mem_cons.1 hb with rfl | hb
     ·exact hx
     ·exact ih _ hn b hb
    ·rw [if_neg hx] at hn; omega
  exact dg l 0 h
theorem addr_bytes : ∀ (k : Nat) (l : List UInt8), addrGo k l = true → 0 < l.length ∧ l.length ≤ 4 * k + 3 ∧ ∀ b ∈ l, addrB b
 | 0, l, h => by
  simp only [addrGo, Bool.and_eq_true, decide_eq_true_eq] at h
  have hlt : upTo 46 l = l := by rw [← upTo_take, h.1, List.take_length]
  obtain ⟨h1, h2, h3⟩ := num_bytes _ h.2
  rw [hlt] at h1 h2 h3
  exact ⟨h1, by omega, fun b hb => .inl (h3 b hb)⟩
 | k + 1, l, h => by
  simp only [addrGo, Bool.and_eq_true, decide_eq_true_eq] at h
  obtain ⟨⟨h0, h1⟩, h2⟩ := h
  obtain ⟨a1, a2, a3⟩ := num_bytes _ h1
  obtain ⟨b1, b2, b3⟩ := addr_bytes k _ h2
  rw [List.length_drop] at b1 b2
  refine ⟨by omega, by omega, fun b hb => ?_⟩
  rw [← List.take_append_drop (upTo 46 l).length l, upTo_take] at hb
  rcases List.mem_append.1 hb with hb | hb
  ·exact .inl (a3 b hb)
  ·have hstop : ∀ (l : List UInt8), (upTo 46 l).length < l.length → (l.drop (upTo 46 l).length) = 46 :: l.drop ((upTo 46 l).length + 1) := fun l => by
    induction l with
    | nil => intro h; simp [upTo] at h
    | cons x t ih =>
     intro h
     rw [upTo_cons] at h ⊢
     by_cases hx : x = 46
     ·simp [hx]
     ·rw [if_neg hx] at h ⊢
      simp only [List.length_cons, List.drop_succ_cons] at h ⊢
      exact ih (by omega)
   rw [hstop l h0] at hb
   rcases List.mem_cons.1 hb with rfl | hb
   ·exact .inr rfl
   ·exact b3 b hb
theorem addr_text (l : List UInt8) (h : addrL l = true) : textL l = true := by
 obtain ⟨h1, h2, h3⟩ := addr_bytes 3 l h
 have hlow : ∀ b : UInt8, addrB b → b.toNat < 128 ∧ badB b = false := fun b hb => by
  rcases hb with hb | rfl
  ·unfold digB at hb; simp [badB]; omega
  ·decide
 unfold textL
 rw [decide_eq_true (by omega), Bool.true_and, validD_ascii l.length l (fun b hb => (hlow b (h3 b (List.mem_of_mem_take hb))).1), List.drop_length, validD_nil, Bool.true_and, List.all_eq_true]
 intro b hb
 simp [(hlow b (h3 b hb)).2]
def digestL (l : List UInt8) : Bool := decide (0 < (upTo 58 l).length ∧ (upTo 58 l).length < l.length)
theorem digest_lib (l : List UInt8) : decide (0 < index l [58]) = digestL l := by
 unfold digestL
 rw [index_one, upTo_index]
 have := upTo_le 58 l
 by_cases h : (upTo 58 l).length < l.length
 ·rw [if_pos h]; congr 1; simp only [eq_iff_iff]; omega
 ·rw [if_neg h]; congr 1; simp only [eq_iff_iff]; omega
end Go.Proofs.YtfgjiidbafdndaaGreatDoor
namespace Go.Proofs.YtfgjiidbafdndaaGreatDoor
open Go.RowKit Go.Lib
set_option maxHeartbeats 2000000
set_option maxRecDepth 100000
theorem ret_int {k : IntKind} {a b : Int} (h : a = b) : Ending.returned (.int k a) = .returned (.int k b) := by rw [h]
theorem ret_bool {a b : Bool} (h : a = b) : Ending.returned (.bool a) = .returned (.bool b) := by rw [h]
theorem ret_two {a b a' b' : Value} (h : a = b) (h' : a' = b') : Ending.returned (.tuple #[a, a']) = .returned (.tuple #[b, b']) := by rw [h, h']
theorem ret_three {a b a' b' a'' b'' : Value} (h : a = b) (h' : a' = b') (h'' : a'' = b'') : Ending.returned (.tuple #[a, a', a'']) = .returned (.tuple #[b, b', b'']) := by rw [h, h', h'']
theorem val_int {k : IntKind} {a b : Int} (h : a = b) : Value.int k a = .int k b := by rw [h]
theorem kind_any (r : Int) (w : World) : Calls Tryz.prog 223 #[.int .i64 r] w fun e w' => e = .returned (.int .i64 (kindD r)) ∧ w' = w := by
 go_enter Tryz.func223, Tryz.ntmps223
 go_wp2
 all_goals
  go_ret
  refine ⟨ret_int ?_, rfl⟩
  unfold kindD
  repeat' split
 all_goals first | rfl | (exfalso; omega) | (exfalso; simp_all; done) | (exfalso; simp_all; omega)
theorem of_any (r : Int) (w : World) : Calls Tryz.prog 198 #[.int .i64 r] w fun e w' => e = .returned (.int .i64 (if r < 0 then 8 else kindD r)) ∧ w' = w := by
 by_cases h : r < 0
 ·rw [if_pos h]
  go_enter Tryz.func198, Tryz.ntmps198
  go_wp2_with (go_at_call 223; refine (kind_any _ _).mono ?_; rintro e w' ⟨rfl, rfl⟩)
  go_ret
  exact ⟨rfl, rfl⟩
 ·rw [if_neg h]
  go_enter Tryz.func198, Tryz.ntmps198
  go_wp2_with (go_at_call 223; refine (kind_any _ _).mono ?_; rintro e w' ⟨rfl, rfl⟩)
  go_ret
  exact ⟨rfl, rfl⟩
theorem more_any (b : UInt8) (w : World) : Calls Tryz.prog 159 #[.int .u8 b.toNat] w fun e w' => e = .returned (.tuple #[.int .i64 (moreD b.toNat).1, .int .u8 (moreD b.toNat).2.1, .int .u8 (moreD b.toNat).2.2]) ∧ w' = w := by
 have hb : b.toNat < 256 := b.toNat_lt
 generalize b.toNat = n at *
 have hc : n < 128 ∨ (194 ≤ n ∧ n ≤ 223) ∨ n = 224 ∨ n = 237 ∨ (225 ≤ n ∧ n ≤ 236) ∨ (238 ≤ n ∧ n ≤ 239) ∨ n = 240 ∨ n = 244 ∨ (241 ≤ n ∧ n ≤ 243) ∨ (128 ≤ n ∧ n ≤ 193) ∨ (245 ≤ n ∧ n ≤ 255) := by omega
 rcases hc with h | ⟨h, h'⟩ | rfl | rfl | ⟨h, h'⟩ | ⟨h, h'⟩ | rfl | rfl | ⟨h, h'⟩ | ⟨h, h'⟩ | ⟨h, h'⟩
 ·have hm : moreD n = (0, 0, 0) := by unfold moreD; repeat' (first | rw [if_pos (by omega)] | rw [if_neg (by omega)])
  rw [hm]
  go_enter Tryz.func159, Tryz.ntmps159
  go_wp2
  go_ret3
  exact ⟨rfl, rfl⟩
 ·have hm : moreD n = (1, 128, 191) := by unfold moreD; repeat' (first | rw [if_pos (by omega)] | rw [if_neg (by omega)])
  rw [hm]
  go_enter Tryz.func159, Tryz.ntmps159
  go_wp2
  go_ret3
  exact ⟨rfl, rfl⟩
 ·have hm : moreD 224 = (2, 160, 191) := by decide
  rw [hm]
  go_enter Tryz.func159, Tryz.ntmps159
  go_wp2
  go_ret3
  exact ⟨rfl, rfl⟩
 ·have hm : moreD 237 = (2, 128, 159) := by decide
  rw [hm]
  go_enter Tryz.func159, Tryz.ntmps159
  go_wp2
  go_ret3
  exact ⟨rfl, rfl⟩
 ·have hm : moreD n = (2, 128, 191) := by unfold moreD; repeat' (first | rw [if_pos (by omega)] | rw [if_neg (by omega)])
  rw [hm]
  go_enter Tryz.func159, Tryz.ntmps159
  go_wp2
  go_ret3
  exact ⟨rfl, rfl⟩
 ·have hm : moreD n = (2, 128, 191) := by unfold moreD; repeat' (first | rw [if_pos (by omega)] | rw [if_neg (by omega)])
  rw [hm]
  go_enter Tryz.func159, Tryz.ntmps159
  go_wp2
  go_ret3
  exact ⟨rfl, rfl⟩
 ·have hm : moreD 240 = (3, 144, 191) := by decide
  rw [hm]
  go_enter Tryz.func159, Tryz.ntmps159
  go_wp2
  go_ret3
  exact ⟨rfl, rfl⟩
 ·have hm : moreD 244 = (3, 128, 143) := by decide
  rw [hm]
  go_enter Tryz.func159, Tryz.ntmps159
  go_wp2
  go_ret3
  exact ⟨rfl, rfl⟩
 ·have hm : moreD n = (3, 128, 191) := by unfold moreD; repeat' (first | rw [if_pos (by omega)] | rw [if_neg (by omega)])
  rw [hm]
  go_enter Tryz.func159, Tryz.ntmps159
  go_wp2
  go_ret3
  exact ⟨rfl, rfl⟩
 ·have hm : moreD n = (-1, 0, 0) := by unfold moreD; repeat' (first | rw [if_pos (by omega)] | rw [if_neg (by omega)])
  rw [hm]
  go_enter Tryz.func159, Tryz.ntmps159
  go_wp2
  go_ret3
  exact ⟨rfl, rfl⟩
 ·have hm : moreD n = (-1, 0, 0) := by unfold moreD; repeat' (first | rw [if_pos (by omega)] | rw [if_neg (by omega)])
  rw [hm]
  go_enter Tryz.func159, Tryz.ntmps159
  go_wp2
  go_ret3
  exact ⟨rfl, rfl⟩
theorem str_hit {s : ByteArray} {k : Nat} {c : UInt8} (hk : k < s.size) (h : ((s[k].toNat : Int) == (c.toNat : Int)) = true) : s[k] = c := by
 simp only [beq_iff_eq] at h
 exact UInt8.toNat_inj.1 (by omega)
theorem take_snoc (s : ByteArray) (k : Nat) (h : k < s.size) : s.data.toList.take (k + 1) = s.data.toList.take k ++ [s[k]] := by
 rw [List.take_succ_eq_append_getElem (by simpa using h)]; rfl
theorem take_all (s : ByteArray) : s.data.toList.take s.size = s.data.toList := List.take_of_length_le (by simp)
theorem str_mem (s : ByteArray) (k : Nat) (h : k < s.size) : s[k] ∈ s.data.toList := List.mem_of_mem_take (i := k + 1) (by rw [take_snoc s k h]; simp)
theorem has_any (s : ByteArray) (c : UInt8) (w : World) (hs : s.size ≤ maxLen) : Calls Tryz.prog 114 #[.string s, .int .u8 c.toNat] w fun e w' => e = .returned (.bool (s.data.toList.contains c)) ∧ w' = w := by
 unfold maxLen at hs
 go_enter Tryz.func114, Tryz.ntmps114
 go_wp2
 go_loop [5] (fun i => ∃ k : Nat, k ≤ s.size ∧ i = .int .i64 k ∧ c ∉ s.data.toList.take k) (fun i => s.size - (intOf i).toNat)
 case atStart => exact ⟨0, Nat.zero_le _, rfl, by simp⟩
 case round =>
  obtain ⟨k, hk, rfl, hn⟩ := hrel
  by_cases hlt : k < s.size
  ·go_wp2
   ·rename_i h1 _
    go_ret
    have := str_mem s k hlt
    rw [str_hit hlt h1] at this
    exact ⟨ret_bool (by simpa using this), rfl⟩
   ·rename_i h1
    go_round
    case rel =>
     refine ⟨k + 1, by omega, rfl, ?_⟩
     rw [take_snoc s k hlt]
     intro hc
     rcases List.mem_append.1 hc with hc | hc
     ·exact hn hc
     ·simp only [List.mem_singleton] at hc
      rw [← hc] at h1; simp at h1
    case measure => simp [intOf]; omega
  ·have : k = s.size := by omega
   subst this
   rw [take_all] at hn
   go_wp2
   go_ret
   exact ⟨rfl, rfl⟩
set_option maxHeartbeats 4000000
theorem getD_drop (s : ByteArray) (a i : Nat) (h : a + i < s.size) : ((s.data.toList.drop a).getD i 0) = s[a + i] := by
 rw [List.getD_eq_getElem?_getD, List.getElem?_drop, List.getElem?_eq_getElem (by simpa using h)]; rfl
def cfold (base : Int) (B : Nat → Nat) : Nat → Int
 | 0 => 0
 | 1 => (B 0 : Int) - base
 | k + 2 => 64 * cfold base B (k + 1) + (B (k + 1) : Int) - 128
theorem cfold_succ (base : Int) (B : Nat → Nat) (k : Nat) (h : 1 ≤ k) : cfold base B (k + 1) = 64 * cfold base B k + (B k : Int) - 128 := by
 obtain ⟨j, rfl⟩ : ∃ j, k = j + 1 := ⟨k - 1, by omega⟩
 rfl
theorem cfold_bound (b : Nat) (B : Nat → Nat) (k : Nat) (hb : b ≤ B 0 ∧ B 0 < b + 32) (h1 : 1 ≤ k) (h4 : k ≤ 4) (H : ∀ i, 1 ≤ i → i < k → contB (B i)) : 0 ≤ cfold b B k ∧ cfold b B k < 8388608 := by
 have hk : k = 1 ∨ k = 2 ∨ k = 3 ∨ k = 4 := by omega
 unfold contB at H
 rcases hk with rfl | rfl | rfl | rfl
 ·simp only [cfold]; omega
 ·have := H 1 (by decide) (by decide)
  simp only [cfold, Nat.zero_add]; omega
 ·have := H 1 (by decide) (by decide)
  have := H 2 (by decide) (by decide)
  simp only [cfold, Nat.zero_add, Nat.reduceAdd]; omega
 ·have := H 1 (by decide) (by decide)
  have := H 2 (by decide) (by decide)
  have := H 3 (by decide) (by decide)
  simp only [cfold, Nat.zero_add, Nat.reduceAdd]; omega
theorem char_two {n : Nat} {x : Int × Nat} {a b : Int} (h : x = (a, n)) (hb : b = n) : Ending.returned (.tuple #[.int .i64 a, .int .i64 b]) = Ending.returned (.tuple #[.int .i64 x.1, .int .i64 x.2]) := by subst h; subst hb; rfl
theorem conts2 {m : Nat} {B : Nat → Nat} (h : 1 < m ∧ contB (B 1)) (i : Nat) (h1 : 1 ≤ i) (h2 : i < 2) : i < m ∧ contB (B i) := by
 obtain rfl : i = 1 := by omega
 ·exact ⟨h.1, h.2⟩
theorem conts3 {m : Nat} {B : Nat → Nat} (h : 1 < m ∧ contB (B 1) ∧ 2 < m ∧ contB (B 2)) (i : Nat) (h1 : 1 ≤ i) (h2 : i < 3) : i < m ∧ contB (B i) := by
 obtain rfl | rfl : i = 1 ∨ i = 2 := by omega
 ·exact ⟨h.1, h.2.1⟩
 ·exact ⟨h.2.2.1, h.2.2.2⟩
theorem conts4 {m : Nat} {B : Nat → Nat} (h : 1 < m ∧ contB (B 1) ∧ 2 < m ∧ contB (B 2) ∧ 3 < m ∧ contB (B 3)) (i : Nat) (h1 : 1 ≤ i) (h2 : i < 4) : i < m ∧ contB (B i) := by
 obtain rfl | rfl | rfl : i = 1 ∨ i = 2 ∨ i = 3 := by omega
 ·exact ⟨h.1, h.2.1⟩
 ·exact ⟨h.2.2.1, h.2.2.2.1⟩
 ·exact ⟨h.2.2.2.2.1, h.2.2.2.2.2⟩
theorem char2_any (s : ByteArray) (a : Nat) (B : Nat → Nat) (w : World) (hs : s.size ≤ 4611686018427387904) (h0 : a < s.size) (hB : ∀ i, ∀ h : a + i < s.size, (s[a + i]'h).toNat = B i) (hc : 192 ≤ B 0 ∧ B 0 < 224) :
  Calls Tryz.prog 197 #[.string s, .int .i64 a] w fun e w' => e = .returned (.tuple #[.int .i64 (charN (s.size - a) (B 0) (B 1) (B 2) (B 3)).1, .int .i64 (charN (s.size - a) (B 0) (B 1) (B 2) (B 3)).2]) ∧ w' = w := by
 have e0' : (s[a].toNat : Int) = B 0 := by have := hB 0 h0; simp only [Nat.add_zero] at this; omega
 have HM : RowKit.Hid (∀ x, (if 1 < s.size - a ∧ contB (B 1) then endC (cfold 192 B 2) 2 128 else (-1, 1)) = x → charN (s.size - a) (B 0) (B 1) (B 2) (B 3) = x) := Lib.hid (fun x h => by
  rw [← h]; unfold charN; repeat' (first | rw [if_neg (show ¬ (B 0 < 128) by omega)] | rw [if_neg (show ¬ (192 ≤ B 0 ∧ B 0 < 224) by omega)] | rw [if_neg (show ¬ (224 ≤ B 0 ∧ B 0 < 240) by omega)] | rw [if_pos hc])
  rfl)
 have HB := Lib.hid hB
 clear hB
 have hi1 : (192 : Int) ≤ B 0 := by omega
 have hi2 : (B 0 : Int) < 224 := by omega
 go_enter Tryz.func197, Tryz.ntmps197
 go_wp2
 go_loopw [4, 5, 8, 10] (fun _ _ r i W => W = w ∧ ∃ k : Nat, 1 ≤ k ∧ k ≤ 2 ∧ i = .int .i64 k ∧ r = .int .i64 (cfold 192 B k) ∧ RowKit.Hid (∀ i, 1 ≤ i → i < k → i < s.size - a ∧ contB (B i))) (fun _ _ _ i _ => 2 - (intOf i).toNat)
 case atStart => exact ⟨rfl, 1, Nat.le_refl _, by decide, rfl, rfl, Lib.hid (fun i h1 h2 => by omega)⟩
 case round =>
  obtain ⟨rfl, k, hk1, hk, rfl, rfl, HK⟩ := hrel
  have hM := cfold_bound 192 B k (by omega) hk1 (by omega) (fun i h1 h2 => (HK.out i h1 h2).2)
  have hM : 0 ≤ cfold 192 B k ∧ cfold 192 B k < 8388608 := hM
  obtain ⟨hM0, hM1⟩ := hM
  obtain ⟨x, hx⟩ : ∃ x, cfold 192 B k = x := ⟨_, rfl⟩
  have HX0 := Lib.hid hx
  rw [hx] at hM0 hM1
  rw [hx]
  clear hx
  by_cases hlt : k < 2
  ·have hak : wrap64 ((a : Int) + (k : Int)) = ((a + k : Nat) : Int) := by rw [IntWalk.wrap64_in _ (by omega)]; simp
   by_cases hin : a + k < s.size
   ·have ek : (s[a + k].toNat : Int) = B k := by have := HB.out k hin; omega
    by_cases hq1 : 128 ≤ B k
    ·by_cases hq2 : B k < 192
     ·go_wp2
      go_roundw
      case rel =>
       refine ⟨trivial, k + 1, by omega, by omega, rfl, val_int ?_, Lib.hid (fun i h1 h2 => ?_)⟩
       ·rw [cfold_succ _ _ _ hk1, HX0.out]
       ·by_cases e : i = k
        ·subst e; exact ⟨by omega, hq1, hq2⟩
        ·exact HK.out i h1 (by omega)
      case measure => simp [intOf]; omega
     ·have HN : RowKit.Hid (charN (s.size - a) (B 0) (B 1) (B 2) (B 3) = (-1, 1)) := Lib.hid (HM.out _ (if_neg (fun h => hq2 (conts2 h k hk1 hlt).2.2)))
      go_wp2
      all_goals
       go_ret2
       exact ⟨char_two HN.out rfl, rfl⟩
    ·have HN : RowKit.Hid (charN (s.size - a) (B 0) (B 1) (B 2) (B 3) = (-1, 1)) := Lib.hid (HM.out _ (if_neg (fun h => hq1 (conts2 h k hk1 hlt).2.1)))
     go_wp2
     all_goals
      go_ret2
      exact ⟨char_two HN.out rfl, rfl⟩
   ·have HN : RowKit.Hid (charN (s.size - a) (B 0) (B 1) (B 2) (B 3) = (-1, 1)) := Lib.hid (HM.out _ (if_neg (fun h => hin (by have := (conts2 h k hk1 hlt).1; omega))))
    go_wp2
    go_ret2
    exact ⟨char_two HN.out rfl, rfl⟩
  ·obtain rfl : k = 2 := by omega
   have HK' : RowKit.Hid (1 < s.size - a ∧ contB (B 1)) := Lib.hid ⟨(HK.out 1 (by decide) (by decide)).1, (HK.out 1 (by decide) (by decide)).2⟩
   have HN : RowKit.Hid (charN (s.size - a) (B 0) (B 1) (B 2) (B 3) = endC (cfold 192 B 2) 2 128) := Lib.hid (HM.out _ (if_pos HK'.out))
   clear HM
   rw [HX0.out] at HN
   generalize x = r at *
   by_cases hend : r < 128 ∨ r > 1114111 ∨ (r ≥ 55296 ∧ r ≤ 57343)
   ·have HX : RowKit.Hid (endC r 2 128 = (-1, 1)) := Lib.hid (if_pos hend)
    go_wp2
    all_goals
     go_ret2
     exact ⟨char_two (HN.out.trans HX.out) rfl, rfl⟩
   ·have HX : RowKit.Hid (endC r 2 128 = (r, 2)) := Lib.hid (if_neg hend)
    go_wp2
    all_goals
     go_ret2
     exact ⟨char_two (HN.out.trans HX.out) rfl, rfl⟩
theorem char3_any (s : ByteArray) (a : Nat) (B : Nat → Nat) (w : World) (hs : s.size ≤ 4611686018427387904) (h0 : a < s.size) (hB : ∀ i, ∀ h : a + i < s.size, (s[a + i]'h).toNat = B i) (hc : 224 ≤ B 0 ∧ B 0 < 240) :
  Calls Tryz.prog 197 #[.string s, .int .i64 a] w fun e w' => e = .returned (.tuple #[.int .i64 (charN (s.size - a) (B 0) (B 1) (B 2) (B 3)).1, .int .i64 (charN (s.size - a) (B 0) (B 1) (B 2) (B 3)).2]) ∧ w' = w := by
 have e0' : (s[a].toNat : Int) = B 0 := by have := hB 0 h0; simp only [Nat.add_zero] at this; omega
 have HM : RowKit.Hid (∀ x, (if 1 < s.size - a ∧ contB (B 1) ∧ 2 < s.size - a ∧ contB (B 2) then endC (cfold 224 B 3) 3 2048 else (-1, 1)) = x → charN (s.size - a) (B 0) (B 1) (B 2) (B 3) = x) := Lib.hid (fun x h => by
  rw [← h]; unfold charN; repeat' (first | rw [if_neg (show ¬ (B 0 < 128) by omega)] | rw [if_neg (show ¬ (192 ≤ B 0 ∧ B 0 < 224) by omega)] | rw [if_neg (show ¬ (224 ≤ B 0 ∧ B 0 < 240) by omega)] | rw [if_pos hc])
  rfl)
 have HB := Lib.hid hB
 clear hB
 have hi1 : (224 : Int) ≤ B 0 := by omega
 have hi2 : (B 0 : Int) < 240 := by omega
 go_enter Tryz.func197, Tryz.ntmps197
 go_wp2
 go_loopw [4, 5, 8, 10] (fun _ _ r i W => W = w ∧ ∃ k : Nat, 1 ≤ k ∧ k ≤ 3 ∧ i = .int .i64 k ∧ r = .int .i64 (cfold 224 B k) ∧ RowKit.Hid (∀ i, 1 ≤ i → i < k → i < s.size - a ∧ contB (B i))) (fun _ _ _ i _ => 3 - (intOf i).toNat)
 case atStart => exact ⟨rfl, 1, Nat.le_refl _, by decide, rfl, rfl, Lib.hid (fun i h1 h2 => by omega)⟩
 case round =>
  obtain ⟨rfl, k, hk1, hk, rfl, rfl, HK⟩ := hrel
  have hM := cfold_bound 224 B k (by omega) hk1 (by omega) (fun i h1 h2 => (HK.out i h1 h2).2)
  have hM : 0 ≤ cfold 224 B k ∧ cfold 224 B k < 8388608 := hM
  obtain ⟨hM0, hM1⟩ := hM
  obtain ⟨x, hx⟩ : ∃ x, cfold 224 B k = x := ⟨_, rfl⟩
  have HX0 := Lib.hid hx
  rw [hx] at hM0 hM1
  rw [hx]
  clear hx
  by_cases hlt : k < 3
  ·have hak : wrap64 ((a : Int) + (k : Int)) = ((a + k : Nat) : Int) := by rw [IntWalk.wrap64_in _ (by omega)]; simp
   by_cases hin : a + k < s.size
   ·have ek : (s[a + k].toNat : Int) = B k := by have := HB.out k hin; omega
    by_cases hq1 : 128 ≤ B k
    ·by_cases hq2 : B k < 192
     ·go_wp2
      go_roundw
      case rel =>
       refine ⟨trivial, k + 1, by omega, by omega, rfl, val_int ?_, Lib.hid (fun i h1 h2 => ?_)⟩
       ·rw [cfold_succ _ _ _ hk1, HX0.out]
       ·by_cases e : i = k
        ·subst e; exact ⟨by omega, hq1, hq2⟩
        ·exact HK.out i h1 (by omega)
      case measure => simp [intOf]; omega
     ·have HN : RowKit.Hid (charN (s.size - a) (B 0) (B 1) (B 2) (B 3) = (-1, 1)) := Lib.hid (HM.out _ (if_neg (fun h => hq2 (conts3 h k hk1 hlt).2.2)))
      go_wp2
      all_goals
       go_ret2
       exact ⟨char_two HN.out rfl, rfl⟩
    ·have HN : RowKit.Hid (charN (s.size - a) (B 0) (B 1) (B 2) (B 3) = (-1, 1)) := Lib.hid (HM.out _ (if_neg (fun h => hq1 (conts3 h k hk1 hlt).2.1)))
     go_wp2
     all_goals
      go_ret2
      exact ⟨char_two HN.out rfl, rfl⟩
   ·have HN : RowKit.Hid (charN (s.size - a) (B 0) (B 1) (B 2) (B 3) = (-1, 1)) := Lib.hid (HM.out _ (if_neg (fun h => hin (by have := (conts3 h k hk1 hlt).1; omega))))
    go_wp2
    go_ret2
    exact ⟨char_two HN.out rfl, rfl⟩
  ·obtain rfl : k = 3 := by omega
   have HK' : RowKit.Hid (1 < s.size - a ∧ contB (B 1) ∧ 2 < s.size - a ∧ contB (B 2)) := Lib.hid ⟨(HK.out 1 (by decide) (by decide)).1, (HK.out 1 (by decide) (by decide)).2, (HK.out 2 (by decide) (by decide)).1, (HK.out 2 (by decide) (by decide)).2⟩
   have HN : RowKit.Hid (charN (s.size - a) (B 0) (B 1) (B 2) (B 3) = endC (cfold 224 B 3) 3 2048) := Lib.hid (HM.out _ (if_pos HK'.out))
   clear HM
   rw [HX0.out] at HN
   generalize x = r at *
   by_cases hend : r < 2048 ∨ r > 1114111 ∨ (r ≥ 55296 ∧ r ≤ 57343)
   ·have HX : RowKit.Hid (endC r 3 2048 = (-1, 1)) := Lib.hid (if_pos hend)
    go_wp2
    all_goals
     go_ret2
     exact ⟨char_two (HN.out.trans HX.out) rfl, rfl⟩
   ·have HX : RowKit.Hid (endC r 3 2048 = (r, 3)) := Lib.hid (if_neg hend)
    go_wp2
    all_goals
     go_ret2
     exact ⟨char_two (HN.out.trans HX.out) rfl, rfl⟩
theorem char4_any (s : ByteArray) (a : Nat) (B : Nat → Nat) (w : World) (hs : s.size ≤ 4611686018427387904) (h0 : a < s.size) (hB : ∀ i, ∀ h : a + i < s.size, (s[a + i]'h).toNat = B i) (hc : 240 ≤ B 0 ∧ B 0 < 248) :
  Calls Tryz.prog 197 #[.string s, .int .i64 a] w fun e w' => e = .returned (.tuple #[.int .i64 (charN (s.size - a) (B 0) (B 1) (B 2) (B 3)).1, .int .i64 (charN (s.size - a) (B 0) (B 1) (B 2) (B 3)).2]) ∧ w' = w := by
 have e0' : (s[a].toNat : Int) = B 0 := by have := hB 0 h0; simp only [Nat.add_zero] at this; omega
 have HM : RowKit.Hid (∀ x, (if 1 < s.size - a ∧ contB (B 1) ∧ 2 < s.size - a ∧ contB (B 2) ∧ 3 < s.size - a ∧ contB (B 3) then endC (cfold 240 B 4) 4 65536 else (-1, 1)) = x → charN (s.size - a) (B 0) (B 1) (B 2) (B 3) = x) := Lib.hid (fun x h => by
  rw [← h]; unfold charN; repeat' (first | rw [if_neg (show ¬ (B 0 < 128) by omega)] | rw [if_neg (show ¬ (192 ≤ B 0 ∧ B 0 < 224) by omega)] | rw [if_neg (show ¬ (224 ≤ B 0 ∧ B 0 < 240) by omega)] | rw [if_pos hc])
  rfl)
 have HB := Lib.hid hB
 clear hB
 have hi1 : (240 : Int) ≤ B 0 := by omega
 have hi2 : (B 0 : Int) < 248 := by omega
 go_enter Tryz.func197, Tryz.ntmps197
 go_wp2
 go_loopw [4, 5, 8, 10] (fun _ _ r i W => W = w ∧ ∃ k : Nat, 1 ≤ k ∧ k ≤ 4 ∧ i = .int .i64 k ∧ r = .int .i64 (cfold 240 B k) ∧ RowKit.Hid (∀ i, 1 ≤ i → i < k → i < s.size - a ∧ contB (B i))) (fun _ _ _ i _ => 4 - (intOf i).toNat)
 case atStart => exact ⟨rfl, 1, Nat.le_refl _, by decide, rfl, rfl, Lib.hid (fun i h1 h2 => by omega)⟩
 case round =>
  obtain ⟨rfl, k, hk1, hk, rfl, rfl, HK⟩ := hrel
  have hM := cfold_bound 240 B k (by omega) hk1 (by omega) (fun i h1 h2 => (HK.out i h1 h2).2)
  have hM : 0 ≤ cfold 240 B k ∧ cfold 240 B k < 8388608 := hM
  obtain ⟨hM0, hM1⟩ := hM
  obtain ⟨x, hx⟩ : ∃ x, cfold 240 B k = x := ⟨_, rfl⟩
  have HX0 := Lib.hid hx
  rw [hx] at hM0 hM1
  rw [hx]
  clear hx
  by_cases hlt : k < 4
  ·have hak : wrap64 ((a : Int) + (k : Int)) = ((a + k : Nat) : Int) := by rw [IntWalk.wrap64_in _ (by omega)]; simp
   by_cases hin : a + k < s.size
   ·have ek : (s[a + k].toNat : Int) = B k := by have := HB.out k hin; omega
    by_cases hq1 : 128 ≤ B k
    ·by_cases hq2 : B k < 192
     ·go_wp2
      go_roundw
      case rel =>
       refine ⟨trivial, k + 1, by omega, by omega, rfl, val_int ?_, Lib.hid (fun i h1 h2 => ?_)⟩
       ·rw [cfold_succ _ _ _ hk1, HX0.out]
       ·by_cases e : i = k
        ·subst e; exact ⟨by omega, hq1, hq2⟩
        ·exact HK.out i h1 (by omega)
      case measure => simp [intOf]; omega
     ·have HN : RowKit.Hid (charN (s.size - a) (B 0) (B 1) (B 2) (B 3) = (-1, 1)) := Lib.hid (HM.out _ (if_neg (fun h => hq2 (conts4 h k hk1 hlt).2.2)))
      go_wp2
      all_goals
       go_ret2
       exact ⟨char_two HN.out rfl, rfl⟩
    ·have HN : RowKit.Hid (charN (s.size - a) (B 0) (B 1) (B 2) (B 3) = (-1, 1)) := Lib.hid (HM.out _ (if_neg (fun h => hq1 (conts4 h k hk1 hlt).2.1)))
     go_wp2
     all_goals
      go_ret2
      exact ⟨char_two HN.out rfl, rfl⟩
   ·have HN : RowKit.Hid (charN (s.size - a) (B 0) (B 1) (B 2) (B 3) = (-1, 1)) := Lib.hid (HM.out _ (if_neg (fun h => hin (by have := (conts4 h k hk1 hlt).1; omega))))
    go_wp2
    go_ret2
    exact ⟨char_two HN.out rfl, rfl⟩
  ·obtain rfl : k = 4 := by omega
   have HK' : RowKit.Hid (1 < s.size - a ∧ contB (B 1) ∧ 2 < s.size - a ∧ contB (B 2) ∧ 3 < s.size - a ∧ contB (B 3)) := Lib.hid ⟨(HK.out 1 (by decide) (by decide)).1, (HK.out 1 (by decide) (by decide)).2, (HK.out 2 (by decide) (by decide)).1, (HK.out 2 (by decide) (by decide)).2, (HK.out 3 (by decide) (by decide)).1, (HK.out 3 (by decide) (by decide)).2⟩
   have HN : RowKit.Hid (charN (s.size - a) (B 0) (B 1) (B 2) (B 3) = endC (cfold 240 B 4) 4 65536) := Lib.hid (HM.out _ (if_pos HK'.out))
   clear HM
   rw [HX0.out] at HN
   generalize x = r at *
   by_cases hend : r < 65536 ∨ r > 1114111 ∨ (r ≥ 55296 ∧ r ≤ 57343)
   ·have HX : RowKit.Hid (endC r 4 65536 = (-1, 1)) := Lib.hid (if_pos hend)
    go_wp2
    all_goals
     go_ret2
     exact ⟨char_two (HN.out.trans HX.out) rfl, rfl⟩
   ·have HX : RowKit.Hid (endC r 4 65536 = (r, 4)) := Lib.hid (if_neg hend)
    go_wp2
    all_goals
     go_ret2
     exact ⟨char_two (HN.out.trans HX.out) rfl, rfl⟩
theorem charAt_any (s : ByteArray) (a : Nat) (B : Nat → Nat) (w : World) (hs : s.size ≤ 4611686018427387904) (h0 : a < s.size) (hB : ∀ i, ∀ h : a + i < s.size, (s[a + i]'h).toNat = B i) (hlt : B 0 < 256) :
  Calls Tryz.prog 197 #[.string s, .int .i64 a] w fun e w' => e = .returned (.tuple #[.int .i64 (charN (s.size - a) (B 0) (B 1) (B 2) (B 3)).1, .int .i64 (charN (s.size - a) (B 0) (B 1) (B 2) (B 3)).2]) ∧ w' = w := by
 by_cases c1 : 192 ≤ B 0 ∧ B 0 < 224
 ·exact char2_any s a B w hs h0 hB c1
 by_cases c2 : 224 ≤ B 0 ∧ B 0 < 240
 ·exact char3_any s a B w hs h0 hB c2
 by_cases c3 : 240 ≤ B 0 ∧ B 0 < 248
 ·exact char4_any s a B w hs h0 hB c3
 have e0' : (s[a].toNat : Int) = B 0 := by have := hB 0 h0; simp only [Nat.add_zero] at this; omega
 clear hB
 by_cases c0 : B 0 < 128
 ·have hm : charN (s.size - a) (B 0) (B 1) (B 2) (B 3) = ((B 0 : Int), 1) := by unfold charN; rw [if_pos c0]
  rw [hm]
  go_enter Tryz.func197, Tryz.ntmps197
  go_wp2
  go_ret2
  exact ⟨rfl, rfl⟩
 ·have hm : charN (s.size - a) (B 0) (B 1) (B 2) (B 3) = (-1, 1) := by unfold charN; rw [if_neg c0, if_neg c1, if_neg c2, if_neg c3]
  rw [hm]
  go_enter Tryz.func197, Tryz.ntmps197
  go_wp2
  all_goals
   go_ret2
   exact ⟨rfl, rfl⟩
theorem char_any (s : ByteArray) (a : Nat) (w : World) (hs : s.size ≤ 4611686018427387904) (h0 : a < s.size) :
  Calls Tryz.prog 197 #[.string s, .int .i64 a] w fun e w' => e = .returned (.tuple #[.int .i64 (charD (s.data.toList.drop a)).1, .int .i64 (charD (s.data.toList.drop a)).2]) ∧ w' = w := by
 rw [← charN_eq, List.length_drop, show s.data.toList.length = s.size by simp]
 refine charAt_any s a (fun i => ((s.data.toList.drop a).getD i 0).toNat) w hs h0 ?_ (UInt8.toNat_lt _)
 intro i h
 rw [getD_drop s a i h]
end Go.Proofs.YtfgjiidbafdndaaGreatDoor
