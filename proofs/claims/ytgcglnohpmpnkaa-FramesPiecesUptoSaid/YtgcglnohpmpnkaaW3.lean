/- Contracts: copies of bytes, frames. -/
import Derived.Test.YtgcglnohpmpnkaaW2
import Derived.Test.YtgcglnohpmpnkaaL1
namespace Go.Proofs.Ytgcglnohpmpnkaa
open Go.RowKit

theorem Try.info5 : (Try.prog.info? 5).map (fun i => (i.zero, i.size, i.bytes)) = some (some (.int .u8 0), 1, 1) := by kernel_rfl
theorem Try.info22 : (Try.prog.info? 22).map (fun i => (i.zero, i.size, i.bytes)) = some (some (.slice none 0 0), 1, 24) := by kernel_rfl
theorem sB : SOf Try.prog 22 5 1 := .mk' Try.underlying22 Try.info5 rfl
theorem sBB : SOf Try.prog 40 22 24 := .mk' Try.underlying40 Try.info22 rfl

/-- A slice of bytes, whole: its address, length, capacity, and the bytes that it holds. -/
structure BS (w : World) (A : Option Addr) (n cap : Nat) (l : List UInt8) : Prop where
  rb : RB w A n l
  le : n ≤ cap
  cap63 : cap ≤ maxLen
  nil : A = none → cap = 0

theorem bl_one (l : List UInt8) : ∀ u ∈ bl l, u.oneCell' = true := by
  intro u hu
  obtain ⟨b, _, rfl⟩ := List.mem_map.1 hu
  rfl
theorem bl_length (l : List UInt8) : (bl l).length = l.length := by simp [bl]
theorem bl_append (l m : List UInt8) : bl (l ++ m) = bl l ++ bl m := by simp [bl]
theorem RB.rd {w : World} {A : Option Addr} {n : Nat} {l : List UInt8} (h : RB w A n l) : Rd w A n (bl l) := by
  refine ⟨by rw [bl_length]; exact h.1, fun hn => ?_⟩
  obtain ⟨b, o, hA, hc⟩ := h.2.2 hn
  refine ⟨b, o, hA, fun k u hu => ?_⟩
  have hk : k < (bl l).length := (List.getElem?_eq_some_iff.1 hu).1
  rw [bl_length] at hk
  rw [hc k (by have := h.1; omega)]
  simp only [bl, List.getElem?_map, List.getElem?_eq_getElem hk, Option.map_some] at hu
  rw [List.getD_eq_getElem?_getD, List.getElem?_eq_getElem hk, Option.getD_some, hu]
theorem RB.of_rd {w : World} {A : Option Addr} {n : Nat} {l : List UInt8} (h : Rd w A n (bl l)) (hn : n ≤ 140737488355328) : RB w A n l := by
  have hl : l.length = n := by have := h.1; rwa [bl_length] at this
  refine ⟨hl, hn, fun h0 => ?_⟩
  obtain ⟨b, o, hA, hc⟩ := h.2 h0
  refine ⟨b, o, hA, fun k hk => hc k _ ?_⟩
  simp only [bl, List.getElem?_map, List.getElem?_eq_getElem (show k < l.length by omega), Option.map_some]
  rw [List.getD_eq_getElem?_getD, List.getElem?_eq_getElem (show k < l.length by omega), Option.getD_some]
theorem RB.drewN {w : World} {A : Option Addr} {n : Nat} {l : List UInt8} (h : RB w A n l) (k : Nat) : RB (w.drewN k) A n l := h
theorem BS.kept {w w' : World} {A : Option Addr} {n cap : Nat} {l : List UInt8} (h : BS w A n cap l) (hk : ∀ p v, w.cell? p = some v → w'.cell? p = some v) : BS w' A n cap l :=
  ⟨RB.of_rd (h.rb.rd.kept hk) h.rb.2.1, h.le, h.cap63, h.nil⟩
theorem BS.below {w w' : World} {A : Option Addr} {n cap : Nat} {l : List UInt8} (h : BS w A n cap l) (hb : Below w.heap.size w w') : BS w' A n cap l :=
  ⟨RB.of_rd (h.rb.rd.below hb) h.rb.2.1, h.le, h.cap63, h.nil⟩
theorem BS.alloc {w : World} {A : Option Addr} {n cap : Nat} {l : List UInt8} (h : BS w A n cap l) (o : Obj) : BS (w.alloc o) A n cap l :=
  ⟨RB.of_rd (h.rb.rd.alloc o) h.rb.2.1, h.le, h.cap63, h.nil⟩
theorem BS.drewN {w : World} {A : Option Addr} {n cap : Nat} {l : List UInt8} (h : BS w A n cap l) (k : Nat) : BS (w.drewN k) A n cap l :=
  ⟨RB.of_rd (h.rb.rd.drewN k) h.rb.2.1, h.le, h.cap63, h.nil⟩
theorem bl_drop (l : List UInt8) (k : Nat) : bl (l.drop k) = (bl l).drop k := by simp [bl, List.map_drop]
theorem bl_take (l : List UInt8) (k : Nat) : bl (l.take k) = (bl l).take k := by simp [bl, List.map_take]
theorem BS.sub {w : World} {A : Option Addr} {n cap : Nat} {l : List UInt8} (h : BS w A n cap l) (k m : Nat) (h1 : k ≤ m) (h2 : m ≤ n) : BS w (subA A cap k) (m - k) (cap - k) ((l.drop k).take (m - k)) := by
  have hn := h.rb.2.1
  have hc := h.le
  refine ⟨RB.of_rd (by rw [bl_take, bl_drop]; exact h.rb.rd.sub k m h1 h2 h.le) (by omega), by omega, by have := h.cap63; omega, fun he => ?_⟩
  have : A = none := by
    unfold subA at he
    split at he
    · exact he
    · simpa using he
  have := h.nil this
  omega
theorem BS.from_ {w : World} {A : Option Addr} {n cap : Nat} {l : List UInt8} (h : BS w A n cap l) (k : Nat) (h1 : k ≤ n) : BS w (subA A cap k) (n - k) (cap - k) (l.drop k) := by
  have := h.sub k n h1 (Nat.le_refl _)
  rwa [List.take_of_length_le (by have := h.rb.1; rw [List.length_drop]; omega)] at this
theorem BS.upto {w : World} {A : Option Addr} {n cap : Nat} {l : List UInt8} (h : BS w A n cap l) (m : Nat) (h1 : m ≤ n) : BS w A m cap (l.take m) := by
  have hn := h.rb.2.1
  have hc := h.le
  have hs := h.sub 0 m (Nat.zero_le _) h1
  have : subA A cap 0 = A := by
    unfold subA
    split
    · rfl
    · cases A <;> simp [Addr.add_zero']
  rw [this, List.drop_zero, Nat.sub_zero, Nat.sub_zero] at hs
  exact hs
/-- A row of bytes of the call's own, as a slice of bytes. -/
theorem own_bs {w : World} {base : Nat} {v : Value} {n : Nat} {l : List UInt8} (h : w.ownsRow base 5 1 v n (bl l)) (hn : n ≤ 140737488355328) :
    ∃ A c, v = .slice A n c ∧ BS w A n c l := by
  have hl := h.1
  obtain ⟨A, c, rfl, hc, hm, _, hr, _, _⟩ := ownsRow_form h
  rcases h.2 with ⟨hv, _⟩ | ⟨g, cap, cur, hv, _⟩
  · injection hv with hA _ hc; subst hA hc
    exact ⟨none, 0, rfl, RB.of_rd hr hn, hc, by decide, fun _ => rfl⟩
  · injection hv with hA
    subst hA
    exact ⟨_, c, rfl, RB.of_rd hr hn, hc, hm, fun h => by cases h⟩

/-- What a law on append leaves below the call's own blocks. -/
theorem below_app {B : Nat} {a w w' : World} {base : Nat} {e : TypeId} {v : Value} {n : Nat} {xs : List Value} (h : Below B a w) (hg : w.grownBy w' v.ownBlock) (ho : w.ownsRow base e 1 v n xs) (hb : B ≤ base) (hB : B ≤ w.heap.size) : Below B a w' :=
  h.grown hg hB fun k hk => Nat.le_trans hb (ho.lt k hk).1

set_option maxHeartbeats 400000 in
theorem own_any (A : Option Addr) (n cap : Nat) (l : List UInt8) (w : World) (h : BS w A n cap l) :
    Calls Try.prog 13 #[.slice A n cap] w fun e w' => ∃ v, e = .returned v ∧ w'.ownsRow w.heap.size 5 1 v n (bl l) ∧ Below w.heap.size w w' := by
  have hn := h.rb.2.1
  have ho : (w.alloc (.cells #[] 5)).ownsRow w.heap.size 5 1 (.slice (some ⟨w.heap.size, 0, none⟩) 0 0) 0 [] := World.ownsRow_made w #[] 0 (Nat.le_refl _) (by decide) rfl
  go_enter Try.func13, Try.ntmps13
  go_wp2_with (at_builtin; refine wpList_app sB rfl (.tmp 3) (.tmp 4) rfl w.heap.size _ 0 [] rfl ho A n cap (bl l) rfl (h.alloc _).rb.rd (fun _ => h.nil) (bl_one l) (by unfold maxLen; omega) (by omega) (by simp) ?_; intro v1 w1 hown1 hg1 hat1)
  go_ret
  rw [Nat.zero_add, List.nil_append] at hown1
  exact ⟨v1, rfl, hown1, below_app ((Below.refl _ _).alloc (Nat.le_refl _) _) hg1 ho (Nat.le_refl _) (by simp)⟩
set_option maxHeartbeats 400000 in
theorem clone_any (A : Option Addr) (n cap : Nat) (l : List UInt8) (w : World) (h : BS w A n cap l) :
    Calls Try.prog 33 #[.slice A n cap] w fun e w' => ∃ v, e = .returned v ∧ w'.ownsRow w.heap.size 5 1 v n (bl l) ∧ Below w.heap.size w w' := by
  have hn := h.rb.2.1
  have ho : (w.alloc (.cells #[] 5)).ownsRow w.heap.size 5 1 (.slice (some ⟨w.heap.size, 0, none⟩) 0 0) 0 [] := World.ownsRow_made w #[] 0 (Nat.le_refl _) (by decide) rfl
  have hq := fun (w : World) A n c => Lib.run_eql_slice_nil (P := Try.prog) w 22 5 A n c 0 0 Try.underlying22
  rcases A with _ | ad
  · obtain rfl := h.nil rfl
    have hn0 := h.le
    obtain rfl : n = 0 := by omega
    have hl : l = [] := List.eq_nil_of_length_eq_zero h.rb.1
    subst hl
    go_enter Try.func33, Try.ntmps33
    go_wp2_with fail
    go_ret
    exact ⟨_, rfl, World.ownsRow_nil _ _ _ _, Below.refl _ _⟩
  go_enter Try.func33, Try.ntmps33
  go_wp2_with (at_builtin; refine wpList_app sB rfl (.tmp 5) (.tmp 6) rfl w.heap.size _ 0 [] rfl ho (some ad) n cap (bl l) rfl (h.alloc _).rb.rd (fun _ => h.nil) (bl_one l) (by unfold maxLen; omega) (by omega) (by simp) ?_; intro v1 w1 hown1 hg1 hat1)
  go_ret
  rw [Nat.zero_add, List.nil_append] at hown1
  exact ⟨v1, rfl, hown1, below_app ((Below.refl _ _).alloc (Nat.le_refl _) _) hg1 ho (Nat.le_refl _) (by simp)⟩

theorem u32_not' (s : BitVec 32) : bits .xor .u32 (s.toNat : Int) 4294967295 = ((~~~ s).toNat : Int) := by
  have : (4294967295 : Int) = ((4294967295#32).toNat : Int) := by decide
  rw [this, bits_xor_bv, BitVec.xor_comm]
  congr 2
set_option maxHeartbeats 400000 in
theorem sumref_any (A : Option Addr) (n cap : Nat) (l : List UInt8) (w : World) (h : RB w A n l) :
    Calls Try.prog 16 #[.slice A n cap] w fun e w' => e = .returned (.int .u32 (crc l).toNat) ∧ w = w' := by
  have hr := fun k (hk : k < n) => h.at_ hk
  obtain ⟨hl, hn, _⟩ := h
  go_enter Try.func16, Try.ntmps16
  go_wp2
  go_loop [3, 4, 5] (fun c i j => ∃ k : Nat, k ≤ n ∧ i = .int .i64 k ∧ c = .int .u32 (crcFrom 4294967295#32 (l.take k)).toNat) (fun _ i _ => n - (intOf i).toNat)
  case atStart => exact ⟨0, by omega, rfl, rfl⟩
  case round =>
    obtain ⟨k, hk, rfl, rfl⟩ := hrel
    by_cases hlt : k < n
    · obtain ⟨b, o, rfl, hc⟩ := hr k hlt
      clear hr
      have HS := Lib.hid (crcFrom_take_succ 4294967295#32 l k (by omega))
      go_wp2
      generalize crcFrom 4294967295#32 (l.take k) = s at *
      go_loop [3, 5] (fun c i => ∃ j : Nat, j ≤ 8 ∧ i = .int .i64 j ∧ c = .int .u32 (tsteps j (s ^^^ BitVec.ofNat 32 l[k].toNat)).toNat) (fun _ i => 8 - (intOf i).toNat)
      case atStart => exact ⟨0, by omega, rfl, val_int (start_byte _ _)⟩
      case round =>
        obtain ⟨j, hj, rfl, rfl⟩ := hrel
        by_cases hlj : j < 8
        · have HT := Lib.hid (show tsteps (j + 1) (s ^^^ BitVec.ofNat 32 l[k].toNat) = tstep (tsteps j (s ^^^ BitVec.ofNat 32 l[k].toNat)) from rfl)
          generalize tsteps j (s ^^^ BitVec.ofNat 32 l[k].toNat) = t at *
          cases hb : t.getLsbD 0
          · have ht := test_false t hb
            have HB := Lib.hid (step_false t hb)
            clear hb
            go_wp2
            go_round
            case rel => exact ⟨j + 1, by omega, by go_num, by rw [HT.out]; exact val_int HB.out⟩
            case measure => simp [intOf]; omega
          · have ht := test_true t hb
            have HB := Lib.hid (step_true t hb)
            clear hb
            go_wp2
            go_round
            case rel => exact ⟨j + 1, by omega, by go_num, by rw [HT.out]; exact val_int HB.out⟩
            case measure => simp [intOf]; omega
        · obtain rfl : j = 8 := by omega
          go_wp2
          go_round
          case rel => exact ⟨k + 1, by omega, by go_num, by rw [HS.out]; rfl⟩
          case measure => simp [intOf]; omega
    · obtain rfl : k = n := by omega
      go_wp2
      go_ret
      exact ⟨by show Ending.returned (.int .u32 (bits _ _ _ _)) = _; rw [u32_not', List.take_of_length_le (by omega)]; rfl, rfl⟩
end Go.Proofs.Ytgcglnohpmpnkaa
