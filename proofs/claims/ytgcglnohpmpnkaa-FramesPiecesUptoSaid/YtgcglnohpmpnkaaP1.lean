/- A slice of bytes that came in, as the walks are told of it. -/
import Derived.Test.YtgcglnohpmpnkaaRows
import Derived.Test.YtgcglnohpmpnkaaW3
import Derived.ProofKit
import Derived.OpenShut
import Derived.SizedLaws
namespace Go.Proofs.Ytgcglnohpmpnkaa
open Go.ChangeShapes Go.WideShapes Go.ChangeAt Go.RowKit

theorem Try.own : ownKnob Try.prog.godebug = none := by kernel_rfl
theorem Try.laidOut : laidOutB Try.prog = true := by kernel_rfl
theorem Try.cells5 : Try.prog.cellsOf 5 = 1 := by kernel_rfl
theorem Try.bytes5 : Try.prog.bytesOf 5 = 1 := by kernel_rfl

def toBytes (zs : List Int) : List UInt8 := zs.map fun z => UInt8.ofNat z.toNat
theorem toBytes_getD (zs : List Int) (k : Nat) (hk : k < zs.length) (hw : ∀ n ∈ zs, (Lit.int .u8 n).wf = true) : ((toBytes zs).getD k 0).toNat = zs.getD k 0 := by
  rw [List.getD_eq_getElem?_getD, List.getD_eq_getElem?_getD, toBytes, List.getElem?_map, List.getElem?_eq_getElem hk]
  have := bounds_u8 (hw _ (List.getElem_mem hk))
  simp only [Option.map_some, Option.getD_some, UInt8.toNat_ofNat']
  omega

theorem open_bs {H : Type} {enc : TypeId × Value → H} {W : World} {base : Nat} {sp : Nat → Bool} {hd : Bool} {a : Option Addr} {len cap : Nat} {d : DataW H} {p : List MemPlace} (hsp : ∀ b, sp b = true)
    (h : DataW.Trod enc Try.prog W base sp hd 22 (.slice a len cap) d p) (hz : ∀ elems spare, d = .slice elems spare → elems.length + spare.length ≤ 140737488351232) :
    ∃ l, BS W a len cap l := by
  obtain ⟨fuel, hf⟩ := h
  rcases open_ints Try.underlying22 Try.underlying5 Try.cells5 hf with ⟨hcs, _⟩ | ⟨x, l, c, zs, hcs, _, hl, hm, hlen, hx, hcell, hwz⟩
  · simp [Value.cells] at hcs
    obtain ⟨rfl, rfl, rfl⟩ := hcs
    exact ⟨[], ⟨rfl, by omega, fun h => absurd h (by omega)⟩, Nat.le_refl _, by decide, fun _ => rfl⟩
  · simp [Value.cells] at hcs
    obtain ⟨rfl, rfl, rfl⟩ := hcs
    rw [if_pos (hsp _)] at hlen
    have hx' := congrArg Prod.fst hx
    have hb := hz _ _ hx'
    simp only [lits, List.length_map, List.length_take, List.length_drop, hlen] at hb
    refine ⟨toBytes (zs.take len), ⟨by simp [toBytes, hlen]; omega, by omega, fun h0 => ?_⟩, hl, hm, fun h => by cases h⟩
    obtain ⟨b, off, spot⟩ := x
    have hspot : spot = none := by simpa [Addr.add] using World.cell?_spot (hcell 0 (by omega))
    subst hspot
    refine ⟨b, off, rfl, fun k hk => ?_⟩
    have := hcell k (by omega)
    rw [Addr.add_lit] at this
    rw [this, toBytes_getD _ k (by simp [hlen]; omega) (fun n hn => hwz n (List.mem_of_mem_take hn))]
    rw [List.getD_eq_getElem?_getD, List.getD_eq_getElem?_getD, List.getElem?_take, if_pos hk]

end Go.Proofs.Ytgcglnohpmpnkaa
