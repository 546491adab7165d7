/- A slice of ints that came in, as the walks are told of it. -/
import Derived.Test.YtgcglnohpmpnkaaP2
import Derived.Test.YtgcglnohpmpnkaaM5
namespace Go.Proofs.Ytgcglnohpmpnkaa
open Go.ChangeShapes Go.WideShapes Go.ChangeAt Go.RowKit

theorem Try.cells3 : Try.prog.cellsOf 3 = 1 := by kernel_rfl
theorem open_is {H : Type} {enc : TypeId × Value → H} {W : World} {base : Nat} {sp : Nat → Bool} {hd : Bool} {a : Option Addr} {len cap : Nat} {d : DataW H} {p : List MemPlace} (hsp : ∀ b, sp b = true)
    (h : DataW.Trod enc Try.prog W base sp hd 65 (.slice a len cap) d p) (hz : Rows.uptoBulk d ≤ 1048576) :
    ∃ zs, IS W a len zs ∧ len + 1 ≤ Rows.uptoBulk d := by
  obtain ⟨fuel, hf⟩ := h
  rcases open_ints Try.underlying65 Try.underlying3 Try.cells3 hf with ⟨hcs, hx⟩ | ⟨x, l, c, zs, hcs, _, hl, hm, hlen, hx, hcell, hwz⟩
  · simp [Value.cells] at hcs
    obtain ⟨rfl, rfl, rfl⟩ := hcs
    have := bulks.one_le d
    exact ⟨[], ⟨rfl, by omega, fun k hk => absurd hk (by omega)⟩, by omega⟩
  · simp [Value.cells] at hcs
    obtain ⟨rfl, rfl, rfl⟩ := hcs
    rw [if_pos (hsp _)] at hlen
    have hx' := congrArg Prod.fst hx
    simp only at hx'
    subst hx'
    have hb := bulks.slice_le (H := H) (lits .i64 (zs.take len)) (lits .i64 (zs.drop len))
    simp only [lits, List.length_map, List.length_take, List.length_drop, hlen] at hb hz ⊢
    refine ⟨zs.take len, ⟨by simp [hlen]; omega, by omega, fun k hk => ?_⟩, by omega⟩
    obtain ⟨b, off, spot⟩ := x
    have hspot : spot = none := by simpa [Addr.add] using World.cell?_spot (hcell 0 (by omega))
    subst hspot
    have hc := hcell k (by omega)
    rw [Addr.add_lit] at hc
    have hk2 : k < zs.length := by omega
    have hg : (zs.take len).getD k 0 = zs.getD k 0 := by
      rw [List.getD_eq_getElem?_getD, List.getD_eq_getElem?_getD, List.getElem?_take, if_pos hk]
    refine ⟨b, off, rfl, by rw [hg]; exact hc, ?_⟩
    rw [hg, List.getD_eq_getElem?_getD, List.getElem?_eq_getElem hk2]
    have := hwz _ (List.getElem_mem hk2)
    simpa [Lit.wf, IntKind.min, IntKind.max, IntKind.signed, IntKind.bits] using this
end Go.Proofs.Ytgcglnohpmpnkaa
