/- Contracts: how the document reads the parts of a path. -/
import Derived.Test.YtfgjiidbafdndaaGreatDoorK4
import Derived.Lib.MapLaws
namespace Go.Proofs.YtfgjiidbafdndaaGreatDoor
open Go.RowKit
set_option maxHeartbeats 1000000
set_option maxRecDepth 100000
theorem seg_take : ∀ (m : Nat) (l : List UInt8), (∀ b ∈ l.take m, b ≠ 47) → (m = l.length ∨ l[m]? = some 47) → seg l = l.take m
 | 0, [], _, _ => rfl
 | 0, b :: l, _, h => by
  rcases h with h | h
  ·simp at h
  ·simp only [List.getElem?_cons_zero, Option.some.injEq] at h
   subst h; rfl
 | m + 1, [], _, h => by
  rcases h with h | h
  ·simp at h
  ·simp at h
 | m + 1, b :: l, ha, h => by
  have hb : b ≠ 47 := ha b (by simp)
  have := seg_take m l (fun x hx => ha x (by simp [hx])) (h.elim (fun h => .inl (by simpa using h)) (fun h => .inr (by simpa using h)))
  unfold seg at this ⊢
  rw [List.takeWhile_cons, if_pos (by simpa using hb), this]; rfl
theorem part_any (s : ByteArray) (a : Nat) (w : World) (hs : s.size ≤ 4611686018427387904) (h0 : a ≤ s.size) :
  Calls Tryz.prog 196 #[.string s, .int .i64 a] w fun e w' => (∃ p : ByteArray, e = .returned (.string p) ∧ p.data.toList = seg (s.data.toList.drop a)) ∧ w' = w := by
 go_enter Tryz.func196, Tryz.ntmps196
 go_wp2
 go_loop [5] (fun i => ∃ k : Nat, a ≤ k ∧ k ≤ s.size ∧ i = .int .i64 k ∧ ∀ b ∈ (s.data.toList.drop a).take (k - a), b ≠ 47) (fun i => s.size - (intOf i).toNat)
 case atStart => exact ⟨a, Nat.le_refl _, h0, rfl, by simp⟩
 case round =>
  obtain ⟨k, hak, hk, rfl, hn⟩ := hrel
  by_cases hlt : k < s.size
  ·have hkth : (s.data.toList.drop a)[k - a]? = some s[k] := by
    rw [List.getElem?_drop, show a + (k - a) = k by omega, List.getElem?_eq_getElem (by simpa using hlt)]; rfl
   by_cases hc : s[k] = 47
   ·have hseg := seg_take (k - a) (s.data.toList.drop a) hn (.inr (by rw [hkth, hc]))
    have HS := Lib.hid hseg
    clear hseg hn hkth
    have hci : (s[k].toNat : Int) = 47 := by rw [hc]; rfl
    go_wp2
    go_ret
    exact ⟨⟨_, rfl, by rw [HS.out]; exact Lib.extract_data s a k⟩, rfl⟩
   ·have hci : ¬ (s[k].toNat : Int) = 47 := fun h => hc (UInt8.toNat_inj.1 (by show _ = 47; omega))
    have hn' : ∀ b ∈ (s.data.toList.drop a).take (k + 1 - a), b ≠ 47 := by
     obtain ⟨q1, q2⟩ := List.getElem?_eq_some_iff.1 hkth
     rw [show k + 1 - a = (k - a) + 1 by omega, List.take_succ_eq_append_getElem q1, q2]
     intro b hb
     rcases List.mem_append.1 hb with hb | hb
     ·exact hn b hb
     ·simp at hb; rw [hb]; exact hc
    clear hn hkth hc
    go_wp2
    go_round
    case rel => exact ⟨k + 1, by omega, by omega, by go_num, hn'⟩
    case measure => simp [intOf]; omega
  ·obtain rfl : k = s.size := by omega
   have HS := Lib.hid (seg_take (s.size - a) (s.data.toList.drop a) hn (.inl (by simp)))
   clear hn
   go_wp2
   go_ret
   exact ⟨⟨_, rfl, by rw [HS.out]; exact Lib.extract_data s a s.size⟩, rfl⟩
set_option maxHeartbeats 4000000
theorem drop_cons' (s : ByteArray) (k : Nat) (h : k < s.size) : s.data.toList.drop k = s[k] :: s.data.toList.drop (k + 1) := by
 rw [List.drop_eq_getElem_cons (by simpa using h)]; rfl
def loAt (lo i : Nat) : Nat := if i = 1 then lo else 128
def hiAt (hi i : Nat) : Nat := if i = 1 then hi else 191
theorem more_range (b : Nat) : (moreD b).1 = -1 ∨ (moreD b).1 = 0 ∨ (moreD b).1 = 1 ∨ (moreD b).1 = 2 ∨ (moreD b).1 = 3 := by
 unfold moreD
 repeat' split
 all_goals simp
theorem more_bytes (b : Nat) : (moreD b).2.1 < 256 ∧ (moreD b).2.2 < 256 := by
 unfold moreD
 repeat' split
 all_goals simp
theorem valid_ok {l : List UInt8} (hne : l ≠ []) {n lo hi : Nat} (hm : moreD (l.getD 0 0).toNat = ((n : Int), lo, hi)) (hl : n < l.length)
  (h : ∀ i, 1 ≤ i → i ≤ n → loAt lo i ≤ (l.getD i 0).toNat ∧ (l.getD i 0).toNat ≤ hiAt hi i) : Lib.validD l = Lib.validD (l.drop (n + 1)) := by
 rw [valid_at l hne hm, if_neg (by omega)]
 have hr := more_range (l.getD 0 0).toNat
 rw [hm] at hr
 simp only at hr
 by_cases h0 : n = 0
 ·subst h0; rw [if_pos (by omega)]
 rw [if_neg (by omega), if_neg (by omega)]
 have h1 : lo ≤ (l.getD 1 0).toNat ∧ (l.getD 1 0).toNat ≤ hi := h 1 (by omega) (by omega)
 rw [if_neg (by omega)]
 by_cases e1 : n = 1
 ·subst e1; rw [if_pos (by omega)]
 rw [if_neg (by omega)]
 have h2 : 128 ≤ (l.getD 2 0).toNat ∧ (l.getD 2 0).toNat ≤ 191 := h 2 (by omega) (by omega)
 rw [if_neg (by omega)]
 by_cases e2 : n = 2
 ·subst e2; rw [if_pos (by omega)]
 rw [if_neg (by omega)]
 have h3 : 128 ≤ (l.getD 3 0).toNat ∧ (l.getD 3 0).toNat ≤ 191 := h 3 (by omega) (by omega)
 rw [if_neg (by omega)]
 obtain rfl : n = 3 := by omega
 rfl
theorem valid_no {l : List UInt8} (hne : l ≠ []) {n lo hi : Nat} (hm : moreD (l.getD 0 0).toNat = ((n : Int), lo, hi)) (hl : n < l.length)
  (i : Nat) (h1 : 1 ≤ i) (h2 : i ≤ n) (h : ¬ (loAt lo i ≤ (l.getD i 0).toNat ∧ (l.getD i 0).toNat ≤ hiAt hi i)) : Lib.validD l = false := by
 rw [valid_at l hne hm, if_neg (by omega), if_neg (by omega), if_neg (by omega)]
 have hr := more_range (l.getD 0 0).toNat
 rw [hm] at hr
 simp only at hr
 by_cases c1 : (l.getD 1 0).toNat < lo ∨ hi < (l.getD 1 0).toNat
 ·rw [if_pos c1]
 rw [if_neg c1]
 by_cases e1 : n = 1
 ·exfalso
  obtain rfl : i = 1 := by omega
  have h : ¬ (lo ≤ (l.getD 1 0).toNat ∧ (l.getD 1 0).toNat ≤ hi) := h
  omega
 rw [if_neg (by omega)]
 by_cases c2 : (l.getD 2 0).toNat < 128 ∨ 191 < (l.getD 2 0).toNat
 ·rw [if_pos c2]
 rw [if_neg c2]
 by_cases e2 : n = 2
 ·exfalso
  have hi12 : i = 1 ∨ i = 2 := by omega
  rcases hi12 with rfl | rfl
  ·have h : ¬ (lo ≤ (l.getD 1 0).toNat ∧ (l.getD 1 0).toNat ≤ hi) := h
   omega
  ·have h : ¬ (128 ≤ (l.getD 2 0).toNat ∧ (l.getD 2 0).toNat ≤ 191) := h
   omega
 rw [if_neg (by omega)]
 by_cases c3 : (l.getD 3 0).toNat < 128 ∨ 191 < (l.getD 3 0).toNat
 ·rw [if_pos c3]
 exfalso
 have hi12 : i = 1 ∨ i = 2 ∨ i = 3 := by omega
 rcases hi12 with rfl | rfl | rfl
 ·have h : ¬ (lo ≤ (l.getD 1 0).toNat ∧ (l.getD 1 0).toNat ≤ hi) := h
  omega
 ·have h : ¬ (128 ≤ (l.getD 2 0).toNat ∧ (l.getD 2 0).toNat ≤ 191) := h
  omega
 ·have h : ¬ (128 ≤ (l.getD 3 0).toNat ∧ (l.getD 3 0).toNat ≤ 191) := h
  omega
theorem valid_short {l : List UInt8} (hne : l ≠ []) {n lo hi : Nat} (hm : moreD (l.getD 0 0).toNat = ((n : Int), lo, hi)) (h0 : 0 < n) (hl : l.length ≤ n) : Lib.validD l = false := by
 rw [valid_at l hne hm, if_neg (by omega), if_neg (by omega), if_pos (by omega)]
theorem valid_none {l : List UInt8} (hne : l ≠ []) {lo hi : Nat} (hm : moreD (l.getD 0 0).toNat = (-1, lo, hi)) : Lib.validD l = false := by
 rw [valid_at l hne hm, if_pos (by decide)]
theorem utf8_any (s : ByteArray) (w : World) (hs : s.size ≤ 4611686018427387904) :
  Calls Tryz.prog 116 #[.string s] w fun e w' => e = .returned (.bool (u8D s)) ∧ w' = w := by
 unfold u8D
 obtain ⟨R, hR⟩ : ∃ R, Lib.validD s.data.toList = R := ⟨_, rfl⟩
 rw [hR]
 go_enter Tryz.func116, Tryz.ntmps116
 go_wp2
 go_loop [3] (fun i => ∃ k : Nat, k ≤ s.size ∧ i = .int .i64 k ∧ RowKit.Hid (Lib.validD (s.data.toList.drop k) = R)) (fun i => s.size - (intOf i).toNat)
 case atStart => exact ⟨0, Nat.zero_le _, rfl, Lib.hid hR⟩
 case round =>
  obtain ⟨k, hk, rfl, HR⟩ := hrel
  by_cases h1 : k < s.size
  ·have hne : s.data.toList.drop k ≠ [] := by rw [drop_cons' s k h1]; simp
   have hb0 : (s.data.toList.drop k).getD 0 0 = s[k] := by rw [drop_cons' s k h1]; rfl
   have hlen : (s.data.toList.drop k).length = s.size - k := by simp
   have hr := more_range s[k].toNat
   obtain ⟨hb1, hb2⟩ := more_bytes s[k].toNat
   obtain ⟨⟨z, lo, hi⟩, hm⟩ : ∃ m, moreD s[k].toNat = m := ⟨_, rfl⟩
   rw [hm] at hr hb1 hb2
   simp only at hr hb1 hb2
   have HM : RowKit.Hid (moreD ((s.data.toList.drop k).getD 0 0).toNat = (z, lo, hi)) := Lib.hid (by rw [hb0]; exact hm)
   have hcall := more_any s[k]
   rw [hm] at hcall
   have HNE := Lib.hid hne
   have HL := Lib.hid hlen
   clear hb0 hm hne hlen
   by_cases hz : z = -1
   ·subst hz
    have hx := (valid_none HNE.out HM.out).symm.trans HR.out
    subst hx
    clear hR HR
    go_wp2_with (go_at_call 159; refine (hcall _).mono ?_; rintro e w' ⟨rfl, rfl⟩)
    go_ret
    exact ⟨rfl, rfl⟩
   ·obtain ⟨n, rfl⟩ : ∃ n : Nat, z = n := ⟨z.toNat, by omega⟩
    have hn3 : n ≤ 3 := by omega
    by_cases hsh : 0 < n ∧ s.size ≤ k + n
    ·have hx := (valid_short HNE.out HM.out hsh.1 (by rw [HL.out]; omega)).symm.trans HR.out
     subst hx
     clear hR HR hr
     have g1 : (0 : Int) < n := by omega
     have g2 : (s.size : Int) ≤ k + n := by omega
     go_wp2_with (go_at_call 159; refine (hcall _).mono ?_; rintro e w' ⟨rfl, rfl⟩)
     go_ret
     exact ⟨rfl, rfl⟩
    ·have hin : k + n < s.size := by omega
     clear hr
     go_wp2_with (go_at_call 159; refine (hcall _).mono ?_; rintro e w' ⟨rfl, rfl⟩)
     go_loop [5, 6, 7] (fun a b i => ∃ j : Nat, 1 ≤ j ∧ j ≤ n + 1 ∧ i = .int .i64 j ∧ a = .int .u8 (loAt lo j) ∧ b = .int .u8 (hiAt hi j) ∧ RowKit.Hid (∀ q, 1 ≤ q → q < j → loAt lo q ≤ ((s.data.toList.drop k).getD q 0).toNat ∧ ((s.data.toList.drop k).getD q 0).toNat ≤ hiAt hi q)) (fun _ _ i => n + 1 - (intOf i).toNat)
     case atStart => exact ⟨1, Nat.le_refl _, by omega, rfl, rfl, rfl, Lib.hid (fun q h1 h2 => by omega)⟩
     case round =>
      obtain ⟨j, hj1, hj, rfl, rfl, rfl, HJ⟩ := hrel
      by_cases hlt : j ≤ n
      ·have hbj : ((s.data.toList.drop k).getD j 0) = s[k + j] := getD_drop s k j (by omega)
       have hkj : k + j < s.size := by omega
       have hak : wrap64 ((k : Int) + (j : Int)) = ((k + j : Nat) : Int) := by rw [IntWalk.wrap64_in _ (by omega)]; simp
       have hlo : loAt lo j < 256 := by unfold loAt; split <;> omega
       have hhi : hiAt hi j < 256 := by unfold hiAt; split <;> omega
       obtain ⟨B, hB⟩ : ∃ B, s[k + j].toNat = B := ⟨_, rfl⟩
       have hBi : (s[k + j].toNat : Int) = B := by omega
       have HB : RowKit.Hid (((s.data.toList.drop k).getD j 0).toNat = B) := Lib.hid (by rw [hbj]; exact hB)
       clear hbj hB
       by_cases hok : loAt lo j ≤ B ∧ B ≤ hiAt hi j
       ·have HJ' : RowKit.Hid (∀ q, 1 ≤ q → q < j + 1 → loAt lo q ≤ ((s.data.toList.drop k).getD q 0).toNat ∧ ((s.data.toList.drop k).getD q 0).toNat ≤ hiAt hi q) := Lib.hid (fun q h1 h2 => by
         by_cases e : q = j
         ·subst e; rw [HB.out]; exact hok
         ·exact HJ.out q h1 (by omega))
        have hl2 : loAt lo (j + 1) = 128 := by unfold loAt; rw [if_neg (by omega)]
        have hh2 : hiAt hi (j + 1) = 191 := by unfold hiAt; rw [if_neg (by omega)]
        have HL2 := Lib.hid hl2
        have HH2 := Lib.hid hh2
        clear hl2 hh2
        generalize loAt lo j = x at *
        generalize hiAt hi j = y at *
        have o1 : (x : Int) ≤ B := by omega
        have o2 : (B : Int) ≤ y := by omega
        go_wp2
        go_round
        case rel => exact ⟨j + 1, by omega, by omega, by go_num, by rw [HL2.out]; rfl, by rw [HH2.out]; rfl, HJ'⟩
        case measure => simp [intOf]; omega
       ·have hx := (valid_no HNE.out HM.out (by rw [HL.out]; omega) j hj1 hlt (by rw [HB.out]; exact hok)).symm.trans HR.out
        subst hx
        clear hR HR
        generalize loAt lo j = x at *
        generalize hiAt hi j = y at *
        by_cases o1 : x ≤ B
        ·have o2 : (y : Int) < B := by omega
         have o1' : (x : Int) ≤ B := by omega
         go_wp2
         all_goals
          go_ret
          exact ⟨rfl, rfl⟩
        ·have o1' : (B : Int) < x := by omega
         go_wp2
         all_goals
          go_ret
          exact ⟨rfl, rfl⟩
      ·obtain rfl : j = n + 1 := by omega
       have hx := (valid_ok HNE.out HM.out (by rw [HL.out]; omega) (fun q h1 h2 => HJ.out q h1 (by omega))).symm.trans HR.out
       rw [List.drop_drop] at hx
       have HX := Lib.hid hx
       clear hx
       go_wp2
       go_round
       case rel => exact ⟨k + (n + 1), by omega, by go_num, HX⟩
       case measure => simp [intOf]; omega
  ·obtain rfl : k = s.size := by omega
   have hx := HR.out
   rw [List.drop_of_length_le (by simp)] at hx
   subst hx
   clear HR hR
   go_wp2
   go_ret
   exact ⟨rfl, rfl⟩
set_option maxHeartbeats 8000000
theorem path_end (n : Nat) (sl : Bool) : pathGo n sl [] = true := by
 cases n with
 | zero => rfl
 | succ n => unfold pathGo; rw [if_pos rfl]
theorem path_slash (n : Nat) (sl : Bool) (t : List UInt8) : pathGo (n + 1) sl (47 :: t) = (!sl && decide (SegOk t) && pathGo n true t) := by
 conv => lhs; unfold pathGo
 rw [if_neg (by simp), if_pos (by rfl)]; rfl
theorem path_char (n : Nat) (sl : Bool) (l : List UInt8) (hne : l ≠ []) (h : l.getD 0 0 ≠ 47) : pathGo (n + 1) sl l = (decide (PlainC l) && pathGo n false (l.drop (Lib.decodeL l).2)) := by
 conv => lhs; unfold pathGo
 rw [if_neg hne, if_neg h]
theorem char_slash (t : List UInt8) : charD (47 :: t) = (47, 1) := by
 unfold charD
 have h := Lib.decodeL_ascii 47 t (by decide)
 have h1 : (Lib.decodeL (47 :: t)).1 = 47 := by rw [h]; rfl
 have h2 : (Lib.decodeL (47 :: t)).2 = 1 := by rw [h]
 rw [if_neg (by unfold BadC; rw [h1]; simp), h1, h2]; rfl
theorem last_byte (l : List UInt8) (h : l.getD 0 0 ≠ 47) : l.getD ((Lib.decodeL l).2 - 1) 0 ≠ 47 := by
 by_cases hb : (l.getD 0 0).toNat < 128
 ·rcases l with _ | ⟨b, t⟩
  ·exact h
  ·have : (Lib.decodeL (b :: t)).2 = 1 := by rw [Lib.decodeL_ascii b t (by simpa using hb)]
   rw [this]; exact h
 ·obtain ⟨_, h2⟩ := decode_high l (by omega)
  have hw := Lib.decodeL_width l
  have := h2 ((Lib.decodeL l).2 - 1) (by omega)
  intro e
  rw [e] at this
  exact absurd this (by decide)
theorem char_plain (l : List UInt8) : (if (charD l).1 < 0 then (8 : Int) else kindD (charD l).1) = 1 ↔ PlainC l := by
 unfold charD PlainC
 by_cases h : BadC l
 ·rw [if_pos h, if_pos (by decide)]; simp [h]
 ·rw [if_neg h, if_neg (by simp)]; simp [h]
theorem char_width (l : List UInt8) (h : PlainC l) : (charD l).2 = (Lib.decodeL l).2 := by
 unfold charD; rw [if_neg h.1]
theorem isEmpty_of {s : ByteArray} (h : s.size ≠ 0) : s.toList.isEmpty = false := by
 rw [ByteArray.toList_eq]
 obtain ⟨⟨l⟩⟩ := s
 cases l with
 | nil => exact absurd rfl h
 | cons b t => rfl
theorem is_slash {s : ByteArray} (h : s.size = 1) (h1 : s[0] = 47) : (s.toList == [47]) = true := by
 rw [ByteArray.toList_eq]
 obtain ⟨⟨l⟩⟩ := s
 cases l with
 | nil => exact absurd h (by decide)
 | cons b t =>
  have ht : t = [] := List.eq_nil_of_length_eq_zero (by have : t.length + 1 = 1 := h; omega)
  subst ht
  have : b = 47 := h1
  subst this
  rfl
theorem not_slash {s : ByteArray} (h : s.size ≠ 1) : (s.toList == [47]) = false := by
 rw [ByteArray.toList_eq]
 apply beq_eq_false_iff_ne.2
 intro e
 apply h
 obtain ⟨⟨l⟩⟩ := s
 simp only at e
 subst e; rfl
theorem byteAt (s : ByteArray) (i : Nat) (h : i < s.size) : s.data.toList.getD i 0 = s[i] := by
 have := getD_drop s 0 i (by omega)
 simpa using this
theorem get_lt (s : ByteArray) (i : Nat) (h : i < s.size) : s.get! i = s[i] := by
 obtain ⟨⟨l⟩⟩ := s
 have h' : i < l.length := h
 show (l.toArray)[i]! = _
 simp [getElem!_def, List.getElem?_eq_getElem h']
 rfl
def CheckPost (R : Bool) (e : Ending) : Prop := ∃ a b : Int, e = .returned (.tuple #[.int .i64 a, .int .i64 b]) ∧ (a = 0 ↔ R = true)
theorem check_post {R : Bool} {a b : Int} (h : a = 0 ↔ R = true) : CheckPost R (.returned (.tuple #[.int .i64 a, .int .i64 b])) := ⟨a, b, rfl, h⟩
theorem toList_of {p : ByteArray} {l : List UInt8} (h : p.data.toList = l) : p.toList = l := by rw [ByteArray.toList_eq]; exact h
theorem check_any (s : ByteArray) (w : World) (hs : s.size ≤ 4611686018427387904) :
  Calls Tryz.prog 158 #[.string s] w fun e w' => CheckPost (pathD s) e ∧ w' = w := by
 obtain ⟨R, hR⟩ : ∃ R, pathD s = R := ⟨_, rfl⟩
 rw [hR]
 unfold pathD at hR
 by_cases h0 : s.size = 0
 ·obtain rfl : s = ⟨#[]⟩ := by
   obtain ⟨⟨l⟩⟩ := s
   have : l = [] := List.eq_nil_of_length_eq_zero h0
   rw [this]
  rw [decide_eq_false (by decide), Bool.false_and] at hR
  subst hR
  go_enter Tryz.func158, Tryz.ntmps158
  go_wp2
  go_ret2
  exact ⟨check_post (by decide), rfl⟩
 have e0 := isEmpty_of h0
 have hp0 : 0 < s.size := by omega
 have g0 : s.get! 0 = s[0] := get_lt s 0 hp0
 have g1 : s.get! (s.size - 1) = s[s.size - 1] := get_lt s _ (by omega)
 rw [g0, g1] at hR
 clear g0 g1
 by_cases h1 : s.size ≤ 4096
 case neg =>
  rw [decide_eq_false (by omega), Bool.false_and] at hR
  subst hR
  have h1z : (4096 : Int) < s.size := by omega
  go_enter Tryz.func158, Tryz.ntmps158
  go_wp2
  go_ret2
  exact ⟨check_post (by decide), rfl⟩
 by_cases h2 : s[0] = 47
 case neg =>
  rw [decide_eq_false (fun h => h2 h.2.2), Bool.false_and] at hR
  subst hR
  have h2z : ¬ (s[0].toNat : Int) = 47 := fun h => h2 (UInt8.toNat_inj.1 (by show _ = 47; omega))
  go_enter Tryz.func158, Tryz.ntmps158
  go_wp2
  go_ret2
  exact ⟨check_post (by decide), rfl⟩
 rw [decide_eq_true (show 0 < s.size ∧ s.size ≤ 4096 ∧ s[0] = 47 from ⟨hp0, h1, h2⟩), Bool.true_and] at hR
 have h2z : (s[0].toNat : Int) = 47 := by rw [h2]; rfl
 by_cases h3 : s.size = 1
 ·have e1 := is_slash h3 h2
  rw [decide_eq_true h3, Bool.true_or] at hR
  subst hR
  clear h3 h2
  go_enter Tryz.func158, Tryz.ntmps158
  go_wp2
  go_ret2
  exact ⟨check_post (by decide), rfl⟩
 have e1 := not_slash h3
 rw [decide_eq_false h3, Bool.false_or] at hR
 by_cases h4 : s[s.size - 1] = 47
 ·rw [decide_eq_false (by simpa using h4), Bool.false_and] at hR
  subst hR
  have h4z : (s[s.size - 1].toNat : Int) = 47 := by rw [h4]; rfl
  clear h2 h4
  go_enter Tryz.func158, Tryz.ntmps158
  go_wp2
  go_ret2
  exact ⟨check_post (by decide), rfl⟩
 rw [decide_eq_true (by simpa using h4), Bool.true_and] at hR
 have h4z : ¬ (s[s.size - 1].toNat : Int) = 47 := fun h => h4 (UInt8.toNat_inj.1 (by show _ = 47; omega))
 have h4b : ((s[s.size - 1].toNat : Int) == 47) = false := beq_eq_false_iff_ne.2 h4z
 replace hR := Lib.hid hR
 clear h2 h4 h3 h4z
 go_enter Tryz.func158, Tryz.ntmps158
 go_wp2
 go_loop [2, 3, 4, 5, 6, 7] (fun _ _ i _ _ _ => ∃ (k n : Nat) (sl : Bool), k ≤ s.size ∧ s.size - k ≤ n ∧ i = .int .i64 k ∧ RowKit.Hid (sl = true ↔ 0 < k ∧ s.data.toList.getD (k - 1) 0 = 47) ∧ RowKit.Hid (pathGo n sl (s.data.toList.drop k) = R)) (fun _ _ i _ _ _ => s.size - (intOf i).toNat)
 case atStart => exact ⟨0, s.size, false, Nat.zero_le _, by omega, rfl, Lib.hid (by simp), Lib.hid hR.out⟩
 case round =>
  obtain ⟨k, n, sl, hk, hn, rfl, HS, HP⟩ := hrel
  clear hR
  by_cases hlt : k < s.size
  ·obtain ⟨m, rfl⟩ : ∃ m, n = m + 1 := ⟨n - 1, by omega⟩
   have hdc := drop_cons' s k hlt
   by_cases hc : s[k] = 47
   ·have hcz : (s[k].toNat : Int) = 47 := by rw [hc]; rfl
    have hx := HP.out
    rw [hdc, hc, path_slash] at hx
    have hchar := char_any s k w hs hlt
    rw [hdc, hc, char_slash] at hchar
    have hof := of_any 47 w
    have hk47 : (if (47 : Int) < 0 then (8 : Int) else kindD 47) = 1 := by decide
    rw [hk47] at hof
    by_cases hsl : 0 < k ∧ s.data.toList.getD (k - 1) 0 = 47
    ·rw [HS.out.2 hsl, Bool.not_true, Bool.false_and, Bool.false_and] at hx
     subst hx
     obtain ⟨hk0, hsl⟩ := hsl
     have hkl : k - 1 < s.size := by omega
     have hpz : (s[k - 1].toNat : Int) = 47 := by rw [byteAt s (k - 1) hkl] at hsl; rw [hsl]; rfl
     have hk1 : (0 : Int) < k := by omega
     have hkm : wrap64 ((k : Int) - 1) = ((k - 1 : Nat) : Int) := by rw [IntWalk.wrap64_in _ (by omega)]; omega
     clear HS HP hc hsl hdc hchar hof
     go_wp2
     go_ret2
     exact ⟨check_post (by decide), rfl⟩
    ·have hsf : sl = false := by
      cases sl with
      | false => rfl
      | true => exact absurd (HS.out.1 rfl) hsl
     rw [hsf, Bool.not_false, Bool.true_and] at hx
     have hpart := part_any s (k + 1) w hs (by omega)
     rw [show ((k + 1 : Nat) : Int) = (k : Int) + 1 from rfl] at hpart
     have HSL := Lib.hid hsl
     have HX := Lib.hid hx
     clear HS HP hc hsl hdc hx hsf
     by_cases hk0 : 0 < k
     ·have hkl : k - 1 < s.size := by omega
      have hpz : ¬ (s[k - 1].toNat : Int) = 47 := fun h => HSL.out ⟨hk0, by rw [byteAt s (k - 1) hkl]; exact UInt8.toNat_inj.1 (by show _ = 47; omega)⟩
      have hk1 : (0 : Int) < k := by omega
      have hkm : wrap64 ((k : Int) - 1) = ((k - 1 : Nat) : Int) := by rw [IntWalk.wrap64_in _ (by omega)]; omega
      clear HSL
      by_cases q1 : seg (s.data.toList.drop (k + 1)) = [46]
      ·have hx := HX.out
       rw [decide_eq_false (fun h => h.1 q1), Bool.false_and] at hx
       subst hx
       clear hchar hof HX
       go_wp2_with (go_at_call 196; refine hpart.mono ?_; rintro e w' ⟨⟨p, rfl, hp⟩, rfl⟩; have q2 : (p.toList == [46]) = true := by rw [toList_of (hp.trans q1)]; rfl)
       go_ret2
       exact ⟨check_post (by decide), rfl⟩
      ·by_cases q2 : seg (s.data.toList.drop (k + 1)) = [46, 46]
       ·have hx := HX.out
        rw [decide_eq_false (fun h => h.2 q2), Bool.false_and] at hx
        subst hx
        clear hchar hof HX
        go_wp2_with (go_at_call 196; refine hpart.mono ?_; rintro e w' ⟨⟨p, rfl, hp⟩, rfl⟩; have q3 : (p.toList == [46]) = false := (by rw [toList_of (hp.trans q2)]; rfl); have q4 : (p.toList == [46, 46]) = true := by rw [toList_of (hp.trans q2)]; rfl)
        go_ret2
        exact ⟨check_post (by decide), rfl⟩
       ·have hx := HX.out
        rw [decide_eq_true (show SegOk (s.data.toList.drop (k + 1)) from ⟨q1, q2⟩), Bool.true_and] at hx
        have HX2 := Lib.hid hx
        have Q1 := Lib.hid q1
        have Q2 := Lib.hid q2
        have HB := Lib.hid (show s.data.toList.getD k 0 = 47 by rw [byteAt s k hlt]; exact UInt8.toNat_inj.1 (by show _ = 47; omega))
        clear HX hx q1 q2
        go_wp2_with (first
         | (go_at_call 196; refine hpart.mono ?_; rintro e w' ⟨⟨p, rfl, hp⟩, rfl⟩; have q3 : (p.toList == [46]) = false := (by rw [toList_of hp]; exact beq_eq_false_iff_ne.2 Q1.out); have q4 : (p.toList == [46, 46]) = false := (by rw [toList_of hp]; exact beq_eq_false_iff_ne.2 Q2.out); clear hp)
         | (go_at_call 197; refine hchar.mono ?_; rintro e w' ⟨rfl, rfl⟩)
         | (go_at_call 198; refine hof.mono ?_; rintro e w' ⟨rfl, rfl⟩))
        go_round
        case rel => exact ⟨k + 1, m, true, by omega, by omega, by go_num, Lib.hid ⟨fun _ => ⟨by omega, HB.out⟩, fun _ => rfl⟩, HX2⟩
        case measure => simp [intOf]; omega
     ·have hk1 : ¬ ((0 : Int) < k) := by omega
      clear HSL
      by_cases q1 : seg (s.data.toList.drop (k + 1)) = [46]
      ·have hx := HX.out
       rw [decide_eq_false (fun h => h.1 q1), Bool.false_and] at hx
       subst hx
       clear hchar hof HX
       go_wp2_with (go_at_call 196; refine hpart.mono ?_; rintro e w' ⟨⟨p, rfl, hp⟩, rfl⟩; have q2 : (p.toList == [46]) = true := by rw [toList_of (hp.trans q1)]; rfl)
       go_ret2
       exact ⟨check_post (by decide), rfl⟩
      ·by_cases q2 : seg (s.data.toList.drop (k + 1)) = [46, 46]
       ·have hx := HX.out
        rw [decide_eq_false (fun h => h.2 q2), Bool.false_and] at hx
        subst hx
        clear hchar hof HX
        go_wp2_with (go_at_call 196; refine hpart.mono ?_; rintro e w' ⟨⟨p, rfl, hp⟩, rfl⟩; have q3 : (p.toList == [46]) = false := (by rw [toList_of (hp.trans q2)]; rfl); have q4 : (p.toList == [46, 46]) = true := by rw [toList_of (hp.trans q2)]; rfl)
        go_ret2
        exact ⟨check_post (by decide), rfl⟩
       ·have hx := HX.out
        rw [decide_eq_true (show SegOk (s.data.toList.drop (k + 1)) from ⟨q1, q2⟩), Bool.true_and] at hx
        have HX2 := Lib.hid hx
        have Q1 := Lib.hid q1
        have Q2 := Lib.hid q2
        have HB := Lib.hid (show s.data.toList.getD k 0 = 47 by rw [byteAt s k hlt]; exact UInt8.toNat_inj.1 (by show _ = 47; omega))
        clear HX hx q1 q2
        go_wp2_with (first
         | (go_at_call 196; refine hpart.mono ?_; rintro e w' ⟨⟨p, rfl, hp⟩, rfl⟩; have q3 : (p.toList == [46]) = false := (by rw [toList_of hp]; exact beq_eq_false_iff_ne.2 Q1.out); have q4 : (p.toList == [46, 46]) = false := (by rw [toList_of hp]; exact beq_eq_false_iff_ne.2 Q2.out); clear hp)
         | (go_at_call 197; refine hchar.mono ?_; rintro e w' ⟨rfl, rfl⟩)
         | (go_at_call 198; refine hof.mono ?_; rintro e w' ⟨rfl, rfl⟩))
        go_round
        case rel => exact ⟨k + 1, m, true, by omega, by omega, by go_num, Lib.hid ⟨fun _ => ⟨by omega, HB.out⟩, fun _ => rfl⟩, HX2⟩
        case measure => simp [intOf]; omega
   ·have hcz : ¬ (s[k].toNat : Int) = 47 := fun h => hc (UInt8.toNat_inj.1 (by show _ = 47; omega))
    have hne : s.data.toList.drop k ≠ [] := by rw [hdc]; simp
    have hh : (s.data.toList.drop k).getD 0 0 ≠ 47 := by rw [hdc]; exact hc
    have hx := HP.out
    rw [path_char _ _ _ hne hh] at hx
    have hchar := char_any s k w hs hlt
    have hiff := char_plain (s.data.toList.drop k)
    have hwd := char_width (s.data.toList.drop k)
    have hlb := last_byte (s.data.toList.drop k) hh
    have hle := Lib.decodeL_le (s.data.toList.drop k) hne
    have hw1 := Lib.decodeL_width (s.data.toList.drop k)
    rw [List.length_drop, show s.data.toList.length = s.size by simp] at hle
    obtain ⟨r, hr⟩ : ∃ r, (charD (s.data.toList.drop k)).1 = r := ⟨_, rfl⟩
    obtain ⟨wd, hwe⟩ : ∃ wd, (charD (s.data.toList.drop k)).2 = wd := ⟨_, rfl⟩
    rw [hr, hwe] at hchar
    rw [hr] at hiff
    rw [hwe] at hwd
    have hof := of_any r w
    obtain ⟨q, hq⟩ : ∃ q, (if r < 0 then (8 : Int) else kindD r) = q := ⟨_, rfl⟩
    rw [hq] at hiff hof
    by_cases hp : PlainC (s.data.toList.drop k)
    ·rw [decide_eq_true hp, Bool.true_and] at hx
     obtain rfl := hiff.2 hp
     have hwd := hwd hp
     rw [← hwd] at hx hlb hle hw1
     rw [List.drop_drop] at hx
     have HX := Lib.hid hx
     have HLB : RowKit.Hid (s.data.toList.getD (k + wd - 1) 0 ≠ 47) := Lib.hid (by
      rw [List.getD_eq_getElem?_getD, List.getElem?_drop, show k + (wd - 1) = k + wd - 1 by omega, ← List.getD_eq_getElem?_getD] at hlb; exact hlb)
     clear HS HP hc hdc hne hh hx hiff hwd hlb hr hwe hq hp
     have hwz : (wd : Int) ≤ s.size := by omega
     go_wp2_with (first
      | (go_at_call 197; refine hchar.mono ?_; rintro e w' ⟨rfl, rfl⟩)
      | (go_at_call 198; refine hof.mono ?_; rintro e w' ⟨rfl, rfl⟩))
     go_round
     case rel => exact ⟨k + wd, m, false, by omega, by omega, by go_num, Lib.hid ⟨fun h => absurd h (by decide), fun h => absurd h.2 HLB.out⟩, HX⟩
     case measure => simp [intOf]; omega
    ·rw [decide_eq_false hp, Bool.false_and] at hx
     subst hx
     have hq1 : ¬ q = 1 := fun h => hp (hiff.1 h)
     clear HS HP hc hdc hne hh hiff hwd hlb hr hwe hq hp
     go_wp2_with (first
      | (go_at_call 197; refine hchar.mono ?_; rintro e w' ⟨rfl, rfl⟩)
      | (go_at_call 198; refine hof.mono ?_; rintro e w' ⟨rfl, rfl⟩))
     go_ret2
     exact ⟨check_post (by decide), rfl⟩
  ·obtain rfl : k = s.size := by omega
   have hx := HP.out
   rw [List.drop_of_length_le (by simp), path_end] at hx
   subst hx
   clear HS HP
   go_wp2
   go_ret2
   exact ⟨check_post (by decide), rfl⟩
theorem valid_any (s : ByteArray) (w : World) (hs : s.size ≤ 4611686018427387904) :
  Calls Tryz.prog 115 #[.string s] w fun e w' => e = .returned (.bool (pathD s)) ∧ w' = w := by
 go_enter Tryz.func115, Tryz.ntmps115
 go_wp2_with (go_at_call 158; refine (check_any s _ hs).mono ?_; rintro e w' ⟨⟨a, b, rfl, hab⟩, rfl⟩)
 go_ret
 refine ⟨ret_bool ?_, rfl⟩
 cases hR : pathD s with
 | true => rw [hR] at hab; simpa using hab.2 rfl
 | false => rw [hR] at hab; simpa using hab
theorem size_list (s : ByteArray) : s.data.toList.length = s.size := by simp
theorem right_any (s : ByteArray) (w : World) (hs : s.size ≤ 4611686018427387904) :
  Calls Tryz.prog 226 #[.string s] w fun e w' => e = .returned (.bool (textL s.data.toList)) ∧ w' = w := by
 obtain ⟨R, hR⟩ : ∃ R, textL s.data.toList = R := ⟨_, rfl⟩
 rw [hR]
 unfold textL at hR
 rw [size_list] at hR
 have hu := utf8_any s w hs
 by_cases h0 : s.size = 0
 ·rw [decide_eq_false (by omega), Bool.false_and, Bool.false_and] at hR
  subst hR
  have h0z : (s.size : Int) < 1 := by omega
  clear hu
  go_enter Tryz.func226, Tryz.ntmps226
  go_wp2
  go_ret
  exact ⟨rfl, rfl⟩
 by_cases h1 : 256 < s.size
 ·rw [decide_eq_false (by omega), Bool.false_and, Bool.false_and] at hR
  subst hR
  have h0z : ¬ (s.size : Int) < 1 := by omega
  have h1z : (256 : Int) < s.size := by omega
  clear hu
  go_enter Tryz.func226, Tryz.ntmps226
  go_wp2
  go_ret
  exact ⟨rfl, rfl⟩
 rw [decide_eq_true (by omega), Bool.true_and] at hR
 have h0z : ¬ (s.size : Int) < 1 := by omega
 have h1z : ¬ (256 : Int) < s.size := by omega
 unfold u8D at hu
 by_cases h2 : Lib.validD s.data.toList = true
 case neg =>
  rw [Bool.not_eq_true] at h2
  rw [h2, Bool.false_and] at hR
  rw [h2] at hu
  subst hR
  go_enter Tryz.func226, Tryz.ntmps226
  go_wp2_with (go_at_call 116; refine hu.mono ?_; rintro e w' ⟨rfl, rfl⟩)
  go_ret
  exact ⟨rfl, rfl⟩
 rw [h2, Bool.true_and] at hR
 rw [h2] at hu
 have HR := Lib.hid hR
 clear hR h2
 go_enter Tryz.func226, Tryz.ntmps226
 go_wp2_with (go_at_call 116; refine hu.mono ?_; rintro e w' ⟨rfl, hw⟩; replace hw := hw.symm; subst hw)
 go_loop [2, 3] (fun _ i => ∃ k : Nat, k ≤ s.size ∧ i = .int .i64 k ∧ RowKit.Hid (((s.data.toList.drop k).all fun b => !badB b) = R)) (fun _ i => s.size - (intOf i).toNat)
 case atStart => exact ⟨0, Nat.zero_le _, rfl, HR⟩
 case round =>
  obtain ⟨k, hk, rfl, HP⟩ := hrel
  clear HR hu
  by_cases hlt : k < s.size
  ·have hx := HP.out
   rw [drop_cons' s k hlt, List.all_cons] at hx
   obtain ⟨B, hB⟩ : ∃ B, s[k].toNat = B := ⟨_, rfl⟩
   have hBz : (s[k].toNat : Int) = B := by omega
   have hbad : badB s[k] = (decide (B < 33) || decide (B = 127) || decide (B = 44)) := by unfold badB; rw [hB]
   rw [hbad] at hx
   clear hB HP hbad
   by_cases c1 : B < 33
   ·rw [decide_eq_true c1, Bool.true_or, Bool.true_or, Bool.not_true, Bool.false_and] at hx
    subst hx
    have c1z : (B : Int) < 33 := by omega
    go_wp2
    go_ret
    exact ⟨rfl, rfl⟩
   have c1z : ¬ (B : Int) < 33 := by omega
   rw [decide_eq_false c1, Bool.false_or] at hx
   by_cases c2 : B = 127
   ·rw [decide_eq_true c2, Bool.true_or, Bool.not_true, Bool.false_and] at hx
    subst hx
    have c2z : ((B : Int) == 127) = true := beq_iff_eq.2 (by omega)
    clear c2
    go_wp2
    go_ret
    exact ⟨rfl, rfl⟩
   have c2z : ((B : Int) == 127) = false := beq_eq_false_iff_ne.2 (by omega)
   rw [decide_eq_false c2, Bool.false_or] at hx
   by_cases c3 : B = 44
   ·rw [decide_eq_true c3, Bool.not_true, Bool.false_and] at hx
    subst hx
    have c3z : ((B : Int) == 44) = true := beq_iff_eq.2 (by omega)
    clear c3
    go_wp2
    go_ret
    exact ⟨rfl, rfl⟩
   have c3z : ((B : Int) == 44) = false := beq_eq_false_iff_ne.2 (by omega)
   rw [decide_eq_false c3, Bool.not_false, Bool.true_and] at hx
   have HX := Lib.hid hx
   clear hx
   go_wp2
   go_round
   case rel => exact ⟨k + 1, by omega, by go_num, HX⟩
   case measure => simp [intOf]; omega
  ·obtain rfl : k = s.size := by omega
   have hx := HP.out
   rw [List.drop_of_length_le (by simp)] at hx
   simp only [List.all_nil] at hx
   subst hx
   clear HP
   go_wp2
   go_ret
   exact ⟨rfl, rfl⟩
theorem cut_any (s : ByteArray) (a : Nat) (c : UInt8) (w : World) (hs : s.size ≤ 4611686018427387904) (ha : a ≤ s.size) :
  Calls Tryz.prog 258 #[.string s, .int .i64 a, .int .u8 c.toNat] w fun e w' => e = .returned (.int .i64 ((a + (upTo c (s.data.toList.drop a)).length : Nat) : Int)) ∧ w' = w := by
 obtain ⟨R, hR⟩ : ∃ R, a + (upTo c (s.data.toList.drop a)).length = R := ⟨_, rfl⟩
 rw [hR]
 obtain ⟨C, hC⟩ : ∃ C, c.toNat = C := ⟨_, rfl⟩
 rw [hC]
 have HR := Lib.hid hR
 have HC := Lib.hid hC
 clear hR hC
 go_enter Tryz.func258, Tryz.ntmps258
 go_wp2
 go_loop [1] (fun i => ∃ k : Nat, k ≤ s.size ∧ i = .int .i64 k ∧ RowKit.Hid (k + (upTo c (s.data.toList.drop k)).length = R)) (fun i => s.size - (intOf i).toNat)
 case atStart => exact ⟨a, ha, rfl, HR⟩
 case round =>
  obtain ⟨k, hk, rfl, HP⟩ := hrel
  clear HR
  by_cases hlt : k < s.size
  ·have hx := HP.out
   rw [drop_cons' s k hlt, upTo_cons] at hx
   by_cases hc : s[k] = c
   ·rw [if_pos hc, List.length_nil, Nat.add_zero] at hx
    subst hx
    have hz : (s[k].toNat : Int) = C := by rw [hc, HC.out]
    clear HP hc
    go_wp2
    go_ret
    exact ⟨rfl, rfl⟩
   ·rw [if_neg hc, List.length_cons] at hx
    have hz : ¬ (s[k].toNat : Int) = C := fun h => hc (UInt8.toNat_inj.1 (by rw [HC.out]; omega))
    have HX : RowKit.Hid (k + 1 + (upTo c (s.data.toList.drop (k + 1))).length = R) := Lib.hid (by omega)
    clear HP hc hx
    go_wp2
    go_round
    case rel => exact ⟨k + 1, by omega, by go_num, HX⟩
    case measure => simp [intOf]; omega
  ·obtain rfl : k = s.size := by omega
   have hx := HP.out
   rw [List.drop_of_length_le (by simp)] at hx
   have hx2 : s.size = R := by rw [← hx]; simp [upTo]
   subst hx2
   clear HP hx
   go_wp2
   go_ret
   exact ⟨rfl, rfl⟩
theorem refdigest_any (s : ByteArray) (w : World) (hs : s.size ≤ 4611686018427387904) :
  Calls Tryz.prog 224 #[.string s] w fun e w' => e = .returned (.bool (textL s.data.toList && digestL s.data.toList)) ∧ w' = w := by
 have hcut := cut_any s 0 58 w hs (Nat.zero_le _)
 have hright := right_any s w hs
 unfold digestL
 rw [size_list]
 rw [List.drop_zero, Nat.zero_add] at hcut
 obtain ⟨n, hn⟩ : ∃ n, (upTo 58 s.data.toList).length = n := ⟨_, rfl⟩
 rw [hn] at hcut ⊢
 have hle : n ≤ s.size := by rw [← hn, ← size_list]; exact upTo_le _ _
 clear hn
 cases hT : textL s.data.toList with
 | false =>
  rw [hT] at hright
  go_enter Tryz.func224, Tryz.ntmps224
  go_wp2_with (first
   | (go_at_call 258; refine hcut.mono ?_; rintro e w' ⟨rfl, rfl⟩)
   | (go_at_call 226; refine hright.mono ?_; rintro e w' ⟨rfl, rfl⟩))
  go_ret
  exact ⟨rfl, rfl⟩
 | true =>
  rw [hT] at hright
  clear hT
  rw [Bool.true_and]
  by_cases h1 : 0 < n
  ·by_cases h2 : n < s.size
   ·rw [decide_eq_true ⟨h1, h2⟩]
    have h1z : (0 : Int) < n := by omega
    have h2z : (n : Int) < s.size := by omega
    go_enter Tryz.func224, Tryz.ntmps224
    go_wp2_with (first
     | (go_at_call 258; refine hcut.mono ?_; rintro e w' ⟨rfl, rfl⟩)
     | (go_at_call 226; refine hright.mono ?_; rintro e w' ⟨rfl, rfl⟩))
    go_ret
    exact ⟨rfl, rfl⟩
   ·rw [decide_eq_false (fun h => h2 h.2)]
    have h1z : (0 : Int) < n := by omega
    have h2z : ¬ (n : Int) < s.size := by omega
    go_enter Tryz.func224, Tryz.ntmps224
    go_wp2_with (first
     | (go_at_call 258; refine hcut.mono ?_; rintro e w' ⟨rfl, rfl⟩)
     | (go_at_call 226; refine hright.mono ?_; rintro e w' ⟨rfl, rfl⟩))
    go_ret
    exact ⟨rfl, rfl⟩
  ·rw [decide_eq_false (fun h => h1 h.1)]
   have h1z : ¬ (0 : Int) < n := by omega
   go_enter Tryz.func224, Tryz.ntmps224
   go_wp2_with (first
    | (go_at_call 258; refine hcut.mono ?_; rintro e w' ⟨rfl, rfl⟩)
    | (go_at_call 226; refine hright.mono ?_; rintro e w' ⟨rfl, rfl⟩))
   go_ret
   exact ⟨rfl, rfl⟩
def Dig (k : Nat) (a : Int) : Prop := 0 ≤ a ∧ (k = 0 → a = 0) ∧ (k = 1 → a ≤ 9) ∧ (k = 2 → a ≤ 99) ∧ a ≤ 999
theorem dig_step {k : Nat} {a d : Int} (h : Dig k a) (hk : k < 3) (h0 : 0 ≤ d) (h9 : d ≤ 9) : Dig (k + 1) (10 * a + d) := by
 unfold Dig at *
 have : k = 0 ∨ k = 1 ∨ k = 2 := by omega
 rcases this with rfl | rfl | rfl <;> omega
theorem decimal_any (s : ByteArray) (w : World) (hs : s.size ≤ 4611686018427387904) :
  Calls Tryz.prog 259 #[.string s, .int .i64 255] w fun e w' => e = .returned (.int .i64 (numD s.data.toList)) ∧ w' = w := by
 obtain ⟨R, hR⟩ : ∃ R, numD s.data.toList = R := ⟨_, rfl⟩
 rw [hR]
 unfold numD at hR
 rw [size_list] at hR
 by_cases h0 : s.size < 1
 ·rw [if_pos (.inl h0)] at hR
  subst hR
  have h0z : (s.size : Int) < 1 := by omega
  go_enter Tryz.func259, Tryz.ntmps259
  go_wp2
  go_ret
  exact ⟨rfl, rfl⟩
 have h0z : ¬ (s.size : Int) < 1 := by omega
 by_cases h1 : 3 < s.size
 ·rw [if_pos (.inr (.inl h1))] at hR
  subst hR
  have h1z : (3 : Int) < s.size := by omega
  go_enter Tryz.func259, Tryz.ntmps259
  go_wp2
  go_ret
  exact ⟨rfl, rfl⟩
 have h1z : ¬ (3 : Int) < s.size := by omega
 have hz : 0 < s.size := by omega
 have hb0 : s.data.toList.getD 0 0 = s[0] := byteAt s 0 hz
 rw [hb0] at hR
 by_cases h2 : 1 < s.size ∧ s[0] = 48
 ·rw [if_pos (.inr (.inr h2))] at hR
  subst hR
  obtain ⟨h2, h3⟩ := h2
  have h2z : (1 : Int) < s.size := by omega
  have h3z : ((s[0].toNat : Int) == 48) = true := by rw [h3]; rfl
  clear h3 hb0
  go_enter Tryz.func259, Tryz.ntmps259
  go_wp2
  go_ret
  exact ⟨rfl, rfl⟩
 rw [if_neg (fun h => h.elim (fun h => h0 h) (fun h => h.elim (fun h => h1 h) h2))] at hR
 have HR := Lib.hid hR
 have main : ∀ (hpre : (1 : Int) < s.size → ((s[0].toNat : Int) == 48) = false), Calls Tryz.prog 259 #[.string s, .int .i64 255] w fun e w' => e = .returned (.int .i64 R) ∧ w' = w := fun hpre => by
  clear hR h2 hb0
  by_cases h4 : (1 : Int) < s.size
  ·have h5 := hpre h4
   clear hpre
   go_enter Tryz.func259, Tryz.ntmps259
   go_wp2
   go_loop [4, 5, 6] (fun _ n i => ∃ (k : Nat) (acc : Int), k ≤ s.size ∧ i = .int .i64 k ∧ n = .int .i64 acc ∧ RowKit.Hid (Dig k acc) ∧ RowKit.Hid (numGo acc (s.data.toList.drop k) = R)) (fun _ _ i => s.size - (intOf i).toNat)
   case atStart => exact ⟨0, 0, Nat.zero_le _, rfl, rfl, Lib.hid ⟨by omega, by omega, by omega, by omega, by omega⟩, HR⟩
   case round =>
    obtain ⟨k, acc, hk, rfl, rfl, HD, HP⟩ := hrel
    clear HR
    have hd0 : 0 ≤ acc := HD.out.1
    have hd1 : acc ≤ 999 := HD.out.2.2.2.2
    by_cases hlt : k < s.size
    ·have hx := HP.out
     rw [drop_cons' s k hlt] at hx
     unfold numGo at hx
     obtain ⟨B, hB⟩ : ∃ B, s[k].toNat = B := ⟨_, rfl⟩
     have hBz : (s[k].toNat : Int) = B := by omega
     by_cases hd : digB s[k]
     ·rw [if_pos hd, hB] at hx
      unfold digB at hd
      rw [hB] at hd
      have HX := Lib.hid hx
      have HD2 := Lib.hid (dig_step HD.out (by omega) (show (0 : Int) ≤ (B : Int) - 48 by omega) (show (B : Int) - 48 ≤ 9 by omega))
      have e1 : (48 : Int) ≤ B := by omega
      have e2 : (B : Int) ≤ 57 := by omega
      clear HP HD hB hd hx
      go_wp2
      go_round
      case rel => exact ⟨k + 1, 10 * acc + (B - 48), by omega, by go_num, val_int (by omega), HD2, HX⟩
      case measure => simp [intOf]; omega
     ·rw [if_neg hd] at hx
      subst hx
      unfold digB at hd
      rw [hB] at hd
      clear HP HD hB
      by_cases e1 : B < 48
      ·have e1z : (B : Int) < 48 := by omega
       go_wp2
       go_ret
       exact ⟨rfl, rfl⟩
      ·have e1z : ¬ (B : Int) < 48 := by omega
       have e2z : (57 : Int) < B := by omega
       go_wp2
       go_ret
       exact ⟨rfl, rfl⟩
    ·obtain rfl : k = s.size := by omega
     have hx := HP.out
     rw [List.drop_of_length_le (by simp)] at hx
     unfold numGo at hx
     clear HP HD
     by_cases e : 255 < acc
     ·rw [if_pos e] at hx
      subst hx
      go_wp2
      go_ret
      exact ⟨rfl, rfl⟩
     ·rw [if_neg e] at hx
      subst hx
      go_wp2
      go_ret
      exact ⟨rfl, rfl⟩
  ·clear hpre
   go_enter Tryz.func259, Tryz.ntmps259
   go_wp2
   go_loop [4, 5, 6] (fun _ n i => ∃ (k : Nat) (acc : Int), k ≤ s.size ∧ i = .int .i64 k ∧ n = .int .i64 acc ∧ RowKit.Hid (Dig k acc) ∧ RowKit.Hid (numGo acc (s.data.toList.drop k) = R)) (fun _ _ i => s.size - (intOf i).toNat)
   case atStart => exact ⟨0, 0, Nat.zero_le _, rfl, rfl, Lib.hid ⟨by omega, by omega, by omega, by omega, by omega⟩, HR⟩
   case round =>
    obtain ⟨k, acc, hk, rfl, rfl, HD, HP⟩ := hrel
    clear HR
    have hd0 : 0 ≤ acc := HD.out.1
    have hd1 : acc ≤ 999 := HD.out.2.2.2.2
    by_cases hlt : k < s.size
    ·have hx := HP.out
     rw [drop_cons' s k hlt] at hx
     unfold numGo at hx
     obtain ⟨B, hB⟩ : ∃ B, s[k].toNat = B := ⟨_, rfl⟩
     have hBz : (s[k].toNat : Int) = B := by omega
     by_cases hd : digB s[k]
     ·rw [if_pos hd, hB] at hx
      unfold digB at hd
      rw [hB] at hd
      have HX := Lib.hid hx
      have HD2 := Lib.hid (dig_step HD.out (by omega) (show (0 : Int) ≤ (B : Int) - 48 by omega) (show (B : Int) - 48 ≤ 9 by omega))
      have e1 : (48 : Int) ≤ B := by omega
      have e2 : (B : Int) ≤ 57 := by omega
      clear HP HD hB hd hx
      go_wp2
      go_round
      case rel => exact ⟨k + 1, 10 * acc + (B - 48), by omega, by go_num, val_int (by omega), HD2, HX⟩
      case measure => simp [intOf]; omega
     ·rw [if_neg hd] at hx
      subst hx
      unfold digB at hd
      rw [hB] at hd
      clear HP HD hB
      by_cases e1 : B < 48
      ·have e1z : (B : Int) < 48 := by omega
       go_wp2
       go_ret
       exact ⟨rfl, rfl⟩
      ·have e1z : ¬ (B : Int) < 48 := by omega
       have e2z : (57 : Int) < B := by omega
       go_wp2
       go_ret
       exact ⟨rfl, rfl⟩
    ·obtain rfl : k = s.size := by omega
     have hx := HP.out
     rw [List.drop_of_length_le (by simp)] at hx
     unfold numGo at hx
     clear HP HD
     by_cases e : 255 < acc
     ·rw [if_pos e] at hx
      subst hx
      go_wp2
      go_ret
      exact ⟨rfl, rfl⟩
     ·rw [if_neg e] at hx
      subst hx
      go_wp2
      go_ret
      exact ⟨rfl, rfl⟩
 exact main fun h => by
  apply beq_eq_false_iff_ne.2
  intro e
  exact h2 ⟨by omega, UInt8.toNat_inj.1 (by show _ = 48; omega)⟩
theorem extract_size (s : ByteArray) (a b : Nat) (h : s.size ≤ 4611686018427387904) : (s.extract a b).size ≤ 4611686018427387904 := by
 have : (s.extract a b).data.toList.length ≤ s.size := by rw [Lib.extract_data, List.length_take, List.length_drop, size_list]; omega
 rw [size_list] at this; omega
def AddrInv (s : ByteArray) (R : Bool) (k f : Nat) : Prop := (k < 4 → f ≤ s.size ∧ addrGo (3 - k) (s.data.toList.drop f) = R) ∧ (k = 4 → R = true)
def AddrPost (R : Bool) (e : Ending) : Prop := ∃ x : Int, e = .returned (.tuple #[.int .u32 x, .bool R])
theorem addr_post {R : Bool} {x : Int} : AddrPost R (.returned (.tuple #[.int .u32 x, .bool R])) := ⟨x, rfl⟩
theorem address_any (s : ByteArray) (w : World) (hs : s.size ≤ 4611686018427387904) :
  Calls Tryz.prog 225 #[.string s] w fun e w' => AddrPost (addrL s.data.toList) e ∧ w' = w := by
 obtain ⟨R, hR⟩ : ∃ R, addrL s.data.toList = R := ⟨_, rfl⟩
 rw [hR]
 have HR := Lib.hid hR
 clear hR
 go_enter Tryz.func225, Tryz.ntmps225
 go_wp2
 go_loop [2, 3, 4, 5, 6, 7, 8] (fun _ _ x f i _ _ => ∃ (k ff : Nat) (xx : Int), k ≤ 4 ∧ i = .int .i64 k ∧ f = .int .i64 ff ∧ x = .int .u32 xx ∧ RowKit.Hid (AddrInv s R k ff)) (fun _ _ _ _ i _ _ => 4 - (intOf i).toNat)
 case atStart => exact ⟨0, 0, 0, by decide, rfl, rfl, rfl, Lib.hid ⟨fun _ => ⟨Nat.zero_le _, HR.out⟩, fun h => by omega⟩⟩
 case round =>
  obtain ⟨k, f, x, hk, rfl, rfl, rfl, HI⟩ := hrel
  clear HR
  by_cases hlt : k < 4
  ·obtain ⟨hf, hx⟩ := HI.out.1 hlt
   have hcut := cut_any s f 46 w hs hf
   obtain ⟨n, hn⟩ : ∃ n, (upTo 46 (s.data.toList.drop f)).length = n := ⟨_, rfl⟩
   have hle : n ≤ s.size - f := by rw [← hn]; exact Nat.le_trans (upTo_le _ _) (by simp)
   have hdl : (s.data.toList.drop f).length = s.size - f := by simp
   have hpiece : (s.extract f (f + n)).data.toList = upTo 46 (s.data.toList.drop f) := by
    rw [Lib.extract_data, show f + n - f = n by omega, ← hn, upTo_take]
   have hdec := decimal_any (s.extract f (f + n)) w (extract_size s f (f + n) hs)
   rw [hpiece] at hdec
   obtain ⟨d, hd⟩ : ∃ d, numD (upTo 46 (s.data.toList.drop f)) = d := ⟨_, rfl⟩
   rw [hd] at hdec
   rw [hn] at hcut
   obtain ⟨t, ht⟩ : ∃ t, f + n = t := ⟨_, rfl⟩
   rw [ht] at hcut hdec
   have hft : f ≤ t := by omega
   have hts : t ≤ s.size := by omega
   clear HI
   have hdd : (s.data.toList.drop f).drop (n + 1) = s.data.toList.drop (t + 1) := by rw [List.drop_drop]; congr 1; omega
   have h3 : k = 3 ∨ k < 3 := by omega
   by_cases hneg : d < 0
   ·have hx2 : R = false := by
     rw [← hx]
     rcases h3 with rfl | h3
     ·show addrGo 0 _ = false
      unfold addrGo; rw [hd, decide_eq_false (p := 0 ≤ d) (by omega), Bool.and_false]
     ·rw [show 3 - k = (2 - k) + 1 by omega]
      unfold addrGo; rw [hd, decide_eq_false (p := 0 ≤ d) (by omega), Bool.and_false, Bool.false_and]
    subst hx2
    clear hx hn hdl hpiece hd ht hdd h3
    go_wp2_with (first
     | (go_at_call 258; refine hcut.mono ?_; rintro e w' ⟨rfl, rfl⟩)
     | (go_at_call 259; refine hdec.mono ?_; rintro e w' ⟨rfl, rfl⟩))
    go_ret2
    exact ⟨addr_post, rfl⟩
   have hnz : ¬ d < 0 := hneg
   rcases h3 with rfl | h3
   ·have kb : (((3 : Nat) : Int) == 3) = true := rfl
    by_cases hts2 : t = s.size
    ·have hx2 : R = true := by
      rw [← hx]
      show addrGo 0 _ = true
      unfold addrGo; rw [hd, decide_eq_true (p := 0 ≤ d) (by omega), hn, hdl, decide_eq_true (by omega)]; rfl
     have tb : ((t : Int) == (s.size : Int)) = true := beq_iff_eq.2 (by omega)
     have HX := Lib.hid hx2
     clear hx hn hdl hpiece hd ht hdd hts2 hx2
     go_wp2_with (first
      | (go_at_call 258; refine hcut.mono ?_; rintro e w' ⟨rfl, rfl⟩)
      | (go_at_call 259; refine hdec.mono ?_; rintro e w' ⟨rfl, rfl⟩))
     go_round
     case rel => exact ⟨4, t + 1, _, by decide, by go_num, by go_num, rfl, Lib.hid ⟨fun h => by omega, fun _ => HX.out⟩⟩
     case measure => simp [intOf]
    ·have hx2 : R = false := by
      rw [← hx]
      show addrGo 0 _ = false
      unfold addrGo; rw [hn, hdl, decide_eq_false (p := n = s.size - f) (by omega)]; rfl
     subst hx2
     have tb : ((t : Int) == (s.size : Int)) = false := beq_eq_false_iff_ne.2 (by omega)
     clear hx hn hdl hpiece hd ht hdd hts2
     go_wp2_with (first
      | (go_at_call 258; refine hcut.mono ?_; rintro e w' ⟨rfl, rfl⟩)
      | (go_at_call 259; refine hdec.mono ?_; rintro e w' ⟨rfl, rfl⟩))
     go_ret2
     exact ⟨addr_post, rfl⟩
   ·have kb : ((k : Int) == 3) = false := beq_eq_false_iff_ne.2 (by omega)
    have hx3 : (decide (n < s.size - f) && decide (0 ≤ d) && addrGo (2 - k) (s.data.toList.drop (t + 1))) = R := by
     rw [← hx, show 3 - k = (2 - k) + 1 by omega]
     conv => rhs; unfold addrGo
     rw [hd, hn, hdl, hdd]
    by_cases hts2 : t = s.size
    ·rw [decide_eq_false (by omega), Bool.false_and, Bool.false_and] at hx3
     subst hx3
     have tb : ((t : Int) == (s.size : Int)) = true := beq_iff_eq.2 (by omega)
     clear hx hn hdl hpiece hd ht hdd hts2
     go_wp2_with (first
      | (go_at_call 258; refine hcut.mono ?_; rintro e w' ⟨rfl, rfl⟩)
      | (go_at_call 259; refine hdec.mono ?_; rintro e w' ⟨rfl, rfl⟩))
     go_ret2
     exact ⟨addr_post, rfl⟩
    ·rw [decide_eq_true (by omega), decide_eq_true (by omega), Bool.true_and, Bool.true_and] at hx3
     have tb : ((t : Int) == (s.size : Int)) = false := beq_eq_false_iff_ne.2 (by omega)
     have HX := Lib.hid hx3
     have htl : t + 1 ≤ s.size := by omega
     clear hx hn hdl hpiece hd ht hdd hts2 hx3
     go_wp2_with (first
      | (go_at_call 258; refine hcut.mono ?_; rintro e w' ⟨rfl, rfl⟩)
      | (go_at_call 259; refine hdec.mono ?_; rintro e w' ⟨rfl, rfl⟩))
     go_round
     case rel => exact ⟨k + 1, t + 1, _, by omega, by go_num, by go_num, rfl, Lib.hid ⟨fun _ => ⟨htl, by rw [show 3 - (k + 1) = 2 - k by omega]; exact HX.out⟩, fun h => by omega⟩⟩
     case measure => simp [intOf]; omega
  ·obtain rfl : k = 4 := by omega
   have hx := HI.out.2 rfl
   subst hx
   clear HI
   go_wp2
   go_ret2
   exact ⟨addr_post, rfl⟩
end Go.Proofs.YtfgjiidbafdndaaGreatDoor
