/- Contracts: the document's answer of the first frame of some bytes. -/
import Derived.Test.YtgcglnohpmpnkaaW6
namespace Go.Proofs.Ytgcglnohpmpnkaa
open Go.RowKit

set_option maxHeartbeats 400000 in
theorem nextref_ok (A : Option Addr) (n cap m : Nat) (l : List UInt8) (w : World) (h : BS w A n cap l) (h4 : 4 ≤ n) (hm : num4 l = m) (hm2 : m ≤ 16777216) (hm8 : m + 8 ≤ n)
    (hc : num4 (l.drop 4) = (crc ((l.drop 8).take m)).toNat) :
    Calls Try.prog 20 #[.slice A n cap] w fun e w' => ∃ v, e = .returned (.tuple #[v, .int .i64 (m + 8), .int .i64 0]) ∧ w'.ownsRow w.heap.size 5 1 v m (bl ((l.drop 8).take m)) ∧ Below w.heap.size w w' := by
  have hl := Lib.hid h.rb.1
  have hn := h.rb.2.1
  have hcap := h.le
  have hcap63 := h.cap63
  unfold maxLen at hcap63
  have H4 := Lib.hid hm
  have HC := Lib.hid hc
  clear hm hc
  have b8 := h.sub 8 (m + 8) (by omega) hm8
  have b4 := h.from_ 4 h4
  have hs8 := run_sub_lh sB A n cap 8 ((m : Int) + 8) 8 (m + 8) rfl rfl (by omega) (by omega)
  have hs4 := run_sub_l sB A n cap 4 4 rfl h4
  rw [Nat.add_sub_cancel] at b8 hs8
  generalize subA A cap 8 = A8 at *
  generalize subA A cap 4 = A4 at *
  go_enter Try.func20, Try.ntmps20
  go_wp2_with (go_at_call 34; refine (numref_at _ n cap l _ h.rb h4 m H4.out).mono ?_; rintro e w1 ⟨rfl, k1, rfl⟩)
  go_quiet ((first | (go_at_call 16; exact q_same (sumref_any A8 m (cap - 8) _ _ (b8.drewN _).rb)) | (go_at_call 34; exact q_draws (numref_at A4 (n - 4) (cap - 4) _ _ (b4.drewN _).rb (by omega) _ HC.out))))
  have ho : ((w.drewN (k1 + nq)).alloc (.cells #[] 5)).ownsRow w.heap.size 5 1 (.slice (some ⟨w.heap.size, 0, none⟩) 0 0) 0 [] := World.ownsRow_made (w.drewN (k1 + nq)) #[] 0 (Nat.le_refl _) (by decide) rfl
  have hb0 : Below w.heap.size w ((w.drewN (k1 + nq)).alloc (.cells #[] 5)) := (below_drewN (Below.refl _ _) _).alloc (Nat.le_refl _) _
  have b8' := (b8.drewN (k1 + nq)).alloc (.cells #[] 5)
  go_wp2_with (at_builtin; refine wpList_app sB rfl (.tmp 33) (.tmp 37) rfl w.heap.size _ 0 [] rfl ho A8 m (cap - 8) _ rfl b8'.rb.rd (fun _ => b8.nil) (bl_one _) (by unfold maxLen; omega) (by omega) hb0.size ?_; intro v1 w1 hown1 hg1 hat1)
  go_ret3
  rw [Nat.zero_add, List.nil_append] at hown1
  exact ⟨v1, rfl, hown1, below_app hb0 hg1 ho (Nat.le_refl _) hb0.size⟩
set_option maxHeartbeats 400000 in
theorem nextref_sum (A : Option Addr) (n cap m : Nat) (l : List UInt8) (w : World) (h : BS w A n cap l) (h4 : 4 ≤ n) (hm : num4 l = m) (hm2 : m ≤ 16777216) (hm8 : m + 8 ≤ n)
    (hc : num4 (l.drop 4) ≠ (crc ((l.drop 8).take m)).toNat) :
    Calls Try.prog 20 #[.slice A n cap] w fun e w' => e = .returned (.tuple #[.slice none 0 0, .int .i64 0, .int .i64 40]) ∧ Below w.heap.size w w' := by
  have hl := Lib.hid h.rb.1
  have hn := h.rb.2.1
  have hcap := h.le
  have hcap63 := h.cap63
  unfold maxLen at hcap63
  have H4 := Lib.hid hm
  have HC : ((num4 (l.drop 4) : Int) != ((crc ((l.drop 8).take m)).toNat : Int)) = true := by rw [bne_iff_ne]; omega
  clear hm hc
  have b8 := h.sub 8 (m + 8) (by omega) hm8
  have b4 := h.from_ 4 h4
  have hs8 := run_sub_lh sB A n cap 8 ((m : Int) + 8) 8 (m + 8) rfl rfl (by omega) (by omega)
  have hs4 := run_sub_l sB A n cap 4 4 rfl h4
  rw [Nat.add_sub_cancel] at b8 hs8
  generalize subA A cap 8 = A8 at *
  generalize subA A cap 4 = A4 at *
  go_enter Try.func20, Try.ntmps20
  go_wp2_with (go_at_call 34; refine (numref_at _ n cap l _ h.rb h4 m H4.out).mono ?_; rintro e w1 ⟨rfl, k1, rfl⟩)
  go_quiet ((first | (go_at_call 16; exact q_same (sumref_any A8 m (cap - 8) _ _ (b8.drewN _).rb)) | (go_at_call 34; exact q_draws (numref_any A4 (n - 4) (cap - 4) _ _ (b4.drewN _).rb (by omega)))))
  go_wp2_with fail
  go_ret3
  exact ⟨rfl, below_drewN (below_drewN (Below.refl _ _) _) _⟩
set_option maxHeartbeats 400000 in
theorem nextref_short (A : Option Addr) (n cap : Nat) (w : World) (h4 : n < 4) :
    Calls Try.prog 20 #[.slice A n cap] w fun e w' => e = .returned (.tuple #[.slice none 0 0, .int .i64 0, .int .i64 41]) ∧ Below w.heap.size w w' := by
  go_enter Try.func20, Try.ntmps20
  go_wp2_with fail
  go_ret3
  exact ⟨rfl, Below.refl _ _⟩
set_option maxHeartbeats 400000 in
theorem nextref_big (A : Option Addr) (n cap m : Nat) (l : List UInt8) (w : World) (h : BS w A n cap l) (h4 : 4 ≤ n) (hm : num4 l = m) (hm2 : 16777216 < m) :
    Calls Try.prog 20 #[.slice A n cap] w fun e w' => e = .returned (.tuple #[.slice none 0 0, .int .i64 0, .int .i64 3]) ∧ Below w.heap.size w w' := by
  have hn := h.rb.2.1
  have hlt := num4_lt l
  rw [hm] at hlt
  have H4 := Lib.hid hm
  clear hm
  by_cases hs : m < 2147483648
  · go_enter Try.func20, Try.ntmps20
    go_wp2_with (go_at_call 34; refine (numref_at _ n cap l _ h.rb h4 m H4.out).mono ?_; rintro e w1 ⟨rfl, k1, rfl⟩)
    go_ret3
    exact ⟨rfl, below_drewN (Below.refl _ _) _⟩
  · have hw : wrap32 (m : Int) = (m : Int) - 4294967296 := by unfold wrap32; omega
    go_enter Try.func20, Try.ntmps20
    go_wp2_with (go_at_call 34; refine (numref_at _ n cap l _ h.rb h4 m H4.out).mono ?_; rintro e w1 ⟨rfl, k1, rfl⟩)
    go_ret3
    exact ⟨rfl, below_drewN (Below.refl _ _) _⟩
set_option maxHeartbeats 400000 in
theorem nextref_torn (A : Option Addr) (n cap m : Nat) (l : List UInt8) (w : World) (h : BS w A n cap l) (h4 : 4 ≤ n) (hm : num4 l = m) (hm2 : m ≤ 16777216) (hm8 : n < m + 8) :
    Calls Try.prog 20 #[.slice A n cap] w fun e w' => e = .returned (.tuple #[.slice none 0 0, .int .i64 0, .int .i64 41]) ∧ Below w.heap.size w w' := by
  have hn := h.rb.2.1
  have H4 := Lib.hid hm
  clear hm
  go_enter Try.func20, Try.ntmps20
  go_wp2_with (go_at_call 34; refine (numref_at _ n cap l _ h.rb h4 m H4.out).mono ?_; rintro e w1 ⟨rfl, k1, rfl⟩)
  go_ret3
  exact ⟨rfl, below_drewN (Below.refl _ _) _⟩

end Go.Proofs.Ytgcglnohpmpnkaa
