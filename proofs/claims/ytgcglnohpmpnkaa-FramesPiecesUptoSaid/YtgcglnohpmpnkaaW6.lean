/- Contracts: the first frame of some bytes, in the program and in the document's answer. -/
import Derived.Test.YtgcglnohpmpnkaaW5
namespace Go.Proofs.Ytgcglnohpmpnkaa
open Go.RowKit

theorem number_at (A : Option Addr) (n cap : Nat) (l : List UInt8) (w : World) (h : RB w A n l) (h4 : 4 ≤ n) (x : Nat) (hx : num4 l = x) :
    Calls Try.prog 32 #[.slice A n cap] w fun e w' => e = .returned (.int .u32 x) ∧ ∃ k, w' = w.drewN k := by
  subst hx; exact number_any A n cap l w h h4
theorem numref_at (A : Option Addr) (n cap : Nat) (l : List UInt8) (w : World) (h : RB w A n l) (h4 : 4 ≤ n) (x : Nat) (hx : num4 l = x) :
    Calls Try.prog 34 #[.slice A n cap] w fun e w' => e = .returned (.int .u32 x) ∧ ∃ k, w' = w.drewN k := by
  subst hx; exact numref_any A n cap l w h h4

set_option maxHeartbeats 400000 in
theorem next_ok (A : Option Addr) (n cap m : Nat) (l : List UInt8) (w : World) (h : BS w A n cap l) (h4 : 4 ≤ n) (hm : num4 l = m) (hm2 : m ≤ 16777216) (hm8 : m + 8 ≤ n)
    (hc : num4 (l.drop 4) = (crc ((l.drop 8).take m)).toNat) :
    Calls Try.prog 19 #[.slice A n cap] w fun e w' => ∃ v, e = .returned (.tuple #[v, .int .i64 (m + 8), .int .i64 0]) ∧ w'.ownsRow w.heap.size 5 1 v m (bl ((l.drop 8).take m)) ∧ Below w.heap.size w w' := by
  have hl := Lib.hid h.rb.1
  have hn := h.rb.2.1
  have hcap := h.le
  have hcap63 := h.cap63
  unfold maxLen at hcap63
  have H4 := Lib.hid hm
  have HC := Lib.hid hc
  clear hm hc
  have b8 := h.sub 8 (m + 8) (by omega) hm8
  have b4 := h.from_ 4 h4
  have hs8 := run_sub_lh sB A n cap 8 ((m : Int) + 8) 8 (m + 8) rfl rfl (by omega) (by omega)
  have hs4 := run_sub_l sB A n cap 4 4 rfl h4
  rw [Nat.add_sub_cancel] at b8 hs8
  generalize subA A cap 8 = A8 at *
  generalize subA A cap 4 = A4 at *
  go_enter Try.func19, Try.ntmps19
  go_wp2_with (go_at_call 32; refine (number_at _ n cap l _ h.rb h4 m H4.out).mono ?_; rintro e w1 ⟨rfl, k1, rfl⟩)
  go_quiet ((first | (go_at_call 12; exact q_same (sum_any A8 m (cap - 8) _ _ (b8.drewN _).rb)) | (go_at_call 32; exact q_draws (number_at A4 (n - 4) (cap - 4) _ _ (b4.drewN _).rb (by omega) _ HC.out))))
  go_wp2_with (go_at_call 33; refine (clone_any A8 m (cap - 8) _ _ (b8.drewN _)).mono ?_; rintro e w2 ⟨v, rfl, hown, hbel⟩)
  go_ret3
  exact ⟨v, rfl, hown, (below_drewN (Below.refl _ _) _).trans hbel⟩
set_option maxHeartbeats 400000 in
theorem next_sum (A : Option Addr) (n cap m : Nat) (l : List UInt8) (w : World) (h : BS w A n cap l) (h4 : 4 ≤ n) (hm : num4 l = m) (hm2 : m ≤ 16777216) (hm8 : m + 8 ≤ n)
    (hc : num4 (l.drop 4) ≠ (crc ((l.drop 8).take m)).toNat) :
    Calls Try.prog 19 #[.slice A n cap] w fun e w' => e = .returned (.tuple #[.slice none 0 0, .int .i64 0, .int .i64 40]) ∧ Below w.heap.size w w' := by
  have hl := Lib.hid h.rb.1
  have hn := h.rb.2.1
  have hcap := h.le
  have hcap63 := h.cap63
  unfold maxLen at hcap63
  have H4 := Lib.hid hm
  have HC : (((crc ((l.drop 8).take m)).toNat : Int) != (num4 (l.drop 4) : Int)) = true := by rw [bne_iff_ne]; omega
  clear hm hc
  have b8 := h.sub 8 (m + 8) (by omega) hm8
  have b4 := h.from_ 4 h4
  have hs8 := run_sub_lh sB A n cap 8 ((m : Int) + 8) 8 (m + 8) rfl rfl (by omega) (by omega)
  have hs4 := run_sub_l sB A n cap 4 4 rfl h4
  rw [Nat.add_sub_cancel] at b8 hs8
  generalize subA A cap 8 = A8 at *
  generalize subA A cap 4 = A4 at *
  go_enter Try.func19, Try.ntmps19
  go_wp2_with (go_at_call 32; refine (number_at _ n cap l _ h.rb h4 m H4.out).mono ?_; rintro e w1 ⟨rfl, k1, rfl⟩)
  go_quiet ((first | (go_at_call 12; exact q_same (sum_any A8 m (cap - 8) _ _ (b8.drewN _).rb)) | (go_at_call 32; exact q_draws (number_any A4 (n - 4) (cap - 4) _ _ (b4.drewN _).rb (by omega)))))
  go_wp2_with fail
  go_ret3
  exact ⟨rfl, below_drewN (below_drewN (Below.refl _ _) _) _⟩
set_option maxHeartbeats 400000 in
theorem next_short (A : Option Addr) (n cap : Nat) (w : World) (h4 : n < 4) :
    Calls Try.prog 19 #[.slice A n cap] w fun e w' => e = .returned (.tuple #[.slice none 0 0, .int .i64 0, .int .i64 41]) ∧ Below w.heap.size w w' := by
  go_enter Try.func19, Try.ntmps19
  go_wp2_with fail
  go_ret3
  exact ⟨rfl, Below.refl _ _⟩
set_option maxHeartbeats 400000 in
theorem next_big (A : Option Addr) (n cap m : Nat) (l : List UInt8) (w : World) (h : BS w A n cap l) (h4 : 4 ≤ n) (hm : num4 l = m) (hm2 : 16777216 < m) :
    Calls Try.prog 19 #[.slice A n cap] w fun e w' => e = .returned (.tuple #[.slice none 0 0, .int .i64 0, .int .i64 3]) ∧ Below w.heap.size w w' := by
  have hn := h.rb.2.1
  have hlt := num4_lt l
  rw [hm] at hlt
  have H4 := Lib.hid hm
  clear hm
  by_cases hs : m < 2147483648
  · go_enter Try.func19, Try.ntmps19
    go_wp2_with (go_at_call 32; refine (number_at _ n cap l _ h.rb h4 m H4.out).mono ?_; rintro e w1 ⟨rfl, k1, rfl⟩)
    go_ret3
    exact ⟨rfl, below_drewN (Below.refl _ _) _⟩
  · have hw : wrap32 (m : Int) = (m : Int) - 4294967296 := by unfold wrap32; omega
    go_enter Try.func19, Try.ntmps19
    go_wp2_with (go_at_call 32; refine (number_at _ n cap l _ h.rb h4 m H4.out).mono ?_; rintro e w1 ⟨rfl, k1, rfl⟩)
    go_ret3
    exact ⟨rfl, below_drewN (Below.refl _ _) _⟩
set_option maxHeartbeats 400000 in
theorem next_torn (A : Option Addr) (n cap m : Nat) (l : List UInt8) (w : World) (h : BS w A n cap l) (h4 : 4 ≤ n) (hm : num4 l = m) (hm2 : m ≤ 16777216) (hm8 : n < m + 8) :
    Calls Try.prog 19 #[.slice A n cap] w fun e w' => e = .returned (.tuple #[.slice none 0 0, .int .i64 0, .int .i64 41]) ∧ Below w.heap.size w w' := by
  have hn := h.rb.2.1
  have H4 := Lib.hid hm
  clear hm
  go_enter Try.func19, Try.ntmps19
  go_wp2_with (go_at_call 32; refine (number_at _ n cap l _ h.rb h4 m H4.out).mono ?_; rintro e w1 ⟨rfl, k1, rfl⟩)
  go_ret3
  exact ⟨rfl, below_drewN (Below.refl _ _) _⟩

end Go.Proofs.Ytgcglnohpmpnkaa
