/- The walk of FramesBursts, whole: every load, place, mask and turn of the checksum. -/
import Derived.Test.YtgcglnohpmpnkaaBurstsA
import Derived.Test.YtgcglnohpmpnkaaBurstsB
import Derived.Test.YtgcglnohpmpnkaaBurstsC
import Derived.OpenShut
namespace Go.Proofs.Ytgcglnohpmpnkaa
open Go.RowKit

theorem bursts_walk (A : Option Addr) (n cap : Nat) (l : List UInt8) (x m s : Int) (w : World) (h : BS w A n cap l) (wx : (Lit.int .i64 x).wf = true) (wm : (Lit.int .u32 m).wf = true) (ws : (Lit.int .u32 s).wf = true) :
    Calls Try.prog 5 #[.slice A n cap, .int .i64 x, .int .u32 m, .int .u32 s] w fun e w' => e = .returned (.bool true) ∧ Below w.heap.size w w' := by
  have hx := bounds_i64 wx
  have hm := bounds_u32 wm
  have hs := bounds_u32 ws
  obtain ⟨m, rfl⟩ := Int.eq_ofNat_of_zero_le hm.1
  obtain ⟨s, rfl⟩ := Int.eq_ofNat_of_zero_le hs.1
  by_cases hn : n ≤ 16777216
  case neg => exact bursts_big A n cap x m s w (by omega)
  by_cases h0 : n ≤ 0
  · by_cases hs0 : s = 0
    · exact bursts_empty_zero A n cap l x m s w h hn h0 hs0
    · exact bursts_empty_more A n cap l x m s w h hn h0 (by omega) hs0
  by_cases hm0 : m = 0
  · by_cases hs0 : s = 0
    · exact bursts_bare_zero A n cap l x m s w h hn (by omega) hm0 hs0
    · exact bursts_bare_more A n cap l x m s w h hn (by omega) hm0 (by omega) hs0
  have hb : ((m : Int) != 0) = true := by rw [bne_iff_ne]; omega
  by_cases hneg : x < 0
  · obtain ⟨a, ha⟩ : ∃ a : Nat, -((x + 1).tmod (8 * (n : Int))) = a := by
      refine ⟨((-(x + 1)) % (8 * (n : Int))).toNat, ?_⟩
      rw [← Int.neg_tmod, Int.tmod_eq_emod_of_nonneg (by omega)]
      have := Int.emod_nonneg (-(x + 1)) (show (8 * (n : Int)) ≠ 0 by omega)
      omega
    have hlt : a < 8 * n := by
      have h1 : (a : Int) = (-(x + 1)) % (8 * (n : Int)) := by rw [← ha, ← Int.neg_tmod, Int.tmod_eq_emod_of_nonneg (by omega)]
      have := Int.emod_lt_of_pos (-(x + 1)) (show 0 < (8 * (n : Int)) by omega)
      omega
    by_cases hs0 : s = 0
    · exact bursts_neg_zero A n cap l x m s w h hn a hlt (by omega) (by omega) hb hx.1 hx.2 hneg ha hs0
    · exact bursts_neg_more A n cap l x m s w h hn a hlt (by omega) (by omega) hb hx.1 hx.2 hneg ha (by omega) hs0
  · obtain ⟨a, ha⟩ : ∃ a : Nat, x % (8 * (n : Int)) = a := by
      refine ⟨(x % (8 * (n : Int))).toNat, ?_⟩
      have := Int.emod_nonneg x (show (8 * (n : Int)) ≠ 0 by omega)
      omega
    have hlt : a < 8 * n := by
      have := Int.emod_lt_of_pos x (show 0 < (8 * (n : Int)) by omega)
      omega
    by_cases hs0 : s = 0
    · exact bursts_pos_zero A n cap l x m s w h hn a hlt (by omega) (by omega) hb hx.1 hx.2 (by omega) ha hs0
    · exact bursts_pos_more A n cap l x m s w h hn a hlt (by omega) (by omega) hb hx.1 hx.2 (by omega) ha (by omega) hs0
end Go.Proofs.Ytgcglnohpmpnkaa
