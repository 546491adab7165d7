/- What the bound of the second form gives; slices of slices of bytes, slices of ints, as the walks are told of them. The bulk lemmas began as the guide's UptoLemmas.lean. -/
import Derived.Test.YtgcglnohpmpnkaaP1
import Derived.Test.YtgcglnohpmpnkaaW4
import Derived.JoinedCond
import Derived.Deep.Slices
namespace Go.Proofs.Ytgcglnohpmpnkaa
open Go.ChangeShapes Go.WideShapes Go.ChangeAt Go.RowKit

namespace bulks
theorem one_le {H : Type} (d : DataW H) : 1 ≤ Rows.uptoBulk d := by
  cases d with
  | lit l => cases l <;> simp [Rows.uptoBulk]
  | nil => simp [Rows.uptoBulk]
  | ptr d => simp [Rows.uptoBulk]
  | slice elems spare => simp [Rows.uptoBulk]
  | agg parts => simp [Rows.uptoBulk]
  | iface t d => simp [Rows.uptoBulk]
  | map entries => simp [Rows.uptoBulk]
  | held h => simp [Rows.uptoBulk]
theorem length_le {H : Type} (l : List (DataW H)) : l.length ≤ Rows.uptoBulkAll l := by
  induction l with
  | nil => simp [Rows.uptoBulkAll]
  | cons x r ih => have := one_le x; simp only [Rows.uptoBulkAll, List.length_cons]; omega
theorem slice_le {H : Type} (elems spare : List (DataW H)) : elems.length + spare.length + 1 ≤ Rows.uptoBulk (.slice elems spare) := by
  have h1 := length_le elems
  have h2 := length_le spare
  simp only [Rows.uptoBulk]
  omega
theorem slice_elems {H : Type} (elems spare : List (DataW H)) : Rows.uptoBulkAll elems + 1 ≤ Rows.uptoBulk (.slice elems spare) := by
  simp only [Rows.uptoBulk]
  omega
theorem bound {H : Type} {l : List (DataW H)} (hk : Rows.uptoSmall H l = true) : Rows.uptoBulkAll l ≤ 1048576 := by
  simpa [Rows.uptoSmall] using hk
/-- An element's bulk, by its index. -/
theorem at_le {H : Type} (D : Nat → DataW H) (n i : Nat) (hi : i < n) : Rows.uptoBulk (D i) ≤ Rows.uptoBulkAll ((List.range n).map D) := by
  induction n with
  | zero => omega
  | succ n ih =>
    have happ : ∀ l r : List (DataW H), Rows.uptoBulkAll (l ++ r) = Rows.uptoBulkAll l + Rows.uptoBulkAll r := fun l r => by
      induction l with
      | nil => simp [Rows.uptoBulkAll]
      | cons x l ih => simp only [List.cons_append, Rows.uptoBulkAll, ih]; omega
    rw [List.range_succ, List.map_append, happ]
    simp only [List.map_cons, List.map_nil, Rows.uptoBulkAll]
    rcases Nat.lt_succ_iff_lt_or_eq.1 hi with h | rfl
    · have := ih h; omega
    · omega
theorem sum_le {H : Type} (D : Nat → DataW H) (L : Nat → List UInt8) : ∀ is : List Nat, (∀ i ∈ is, (L i).length + 1 ≤ Rows.uptoBulk (D i)) → lenSum (is.map L) + is.length ≤ Rows.uptoBulkAll (is.map D)
  | [], _ => by simp [lenSum, Rows.uptoBulkAll]
  | i :: is, h => by
    have h1 := h i (by simp)
    have h2 := sum_le D L is fun j hj => h j (by simp [hj])
    simp only [List.map_cons, lenSum, Rows.uptoBulkAll, List.length_cons]
    omega
end bulks

theorem open_bs_bulk {H : Type} {enc : TypeId × Value → H} {W : World} {base : Nat} {sp : Nat → Bool} {hd : Bool} {a : Option Addr} {len cap : Nat} {d : DataW H} {p : List MemPlace} (hsp : ∀ b, sp b = true)
    (h : DataW.Trod enc Try.prog W base sp hd 22 (.slice a len cap) d p) (hz : Rows.uptoBulk d ≤ 1048576) :
    ∃ l, BS W a len cap l ∧ len + 1 ≤ Rows.uptoBulk d := by
  obtain ⟨l, hl⟩ := open_bs hsp h (fun elems spare hd => by
    subst hd
    have := bulks.slice_le elems spare
    omega)
  refine ⟨l, hl, ?_⟩
  obtain ⟨fuel, hf⟩ := h
  rcases open_ints Try.underlying22 Try.underlying5 Try.cells5 hf with ⟨hcs, hx⟩ | ⟨x, l, c, zs, hcs, _, hl, hm, hlen, hx, hcell, hwz⟩
  · simp [Value.cells] at hcs
    obtain ⟨rfl, rfl, rfl⟩ := hcs
    have := bulks.one_le d
    omega
  · simp [Value.cells] at hcs
    obtain ⟨rfl, rfl, rfl⟩ := hcs
    rw [if_pos (hsp _)] at hlen
    have hx' := congrArg Prod.fst hx
    simp only at hx'
    subst hx'
    have := bulks.slice_le (H := H) (lits .u8 (zs.take len)) (lits .u8 (zs.drop len))
    simp only [lits, List.length_map, List.length_take, List.length_drop, hlen] at this ⊢
    omega

theorem Try.cells22 : Try.prog.cellsOf 22 = 1 := by kernel_rfl

theorem open_bb {H : Type} {enc : TypeId × Value → H} {W : World} {base : Nat} {sp : Nat → Bool} {hd : Bool} {a : Option Addr} {len cap : Nat} {d : DataW H} {p : List MemPlace} (hsp : ∀ b, sp b = true)
    (h : DataW.Trod enc Try.prog W base sp hd 40 (.slice a len cap) d p) (hz : Rows.uptoBulk d ≤ 1048576) :
    ∃ ls, BB W a len cap ls ∧ lenSum ls + len + 1 ≤ Rows.uptoBulk d := by
  obtain ⟨fuel, hf⟩ := h
  rcases Deep.open_slice1 Try.underlying40 Try.cells22 hf with ⟨hcs, _⟩ | ⟨x, l, c, m, n, V, D, Pl, hcs, _, hl, hm, hmm, hx, hel⟩
  · simp [Value.cells] at hcs
    obtain ⟨rfl, rfl, rfl⟩ := hcs
    have := bulks.one_le d
    exact ⟨[], ⟨rfl, Nat.le_refl _, by decide, fun _ => rfl, fun k hk => absurd hk (by omega)⟩, by simp [lenSum]; omega⟩
  · simp [Value.cells] at hcs
    obtain ⟨rfl, rfl, rfl⟩ := hcs
    rw [if_pos (hsp _)] at hmm
    subst m
    have hx' := congrArg Prod.fst hx
    simp only at hx'
    subst hx'
    have hb := bulks.slice_elems ((List.range len).map D) ((List.range (cap - len)).map fun j => D (len + j))
    obtain ⟨L, hL⟩ := Deep.choose_lt (α := List UInt8) (n := len) (p := fun i l => (∃ A' n' c', V i = .slice A' n' c' ∧ BS W A' n' c' l) ∧ l.length + 1 ≤ Rows.uptoBulk (D i)) (fun i hi => by
      obtain ⟨hc, ht⟩ := hel i (by omega)
      have hbi := bulks.at_le D len i hi
      have hform : ∃ A' n' c', V i = .slice A' n' c' := by
        rcases open_ints Try.underlying22 Try.underlying5 Try.cells5 ht with ⟨hcs, _⟩ | ⟨x, l, c, zs, hcs, _⟩
        · exact ⟨none, 0, 0, by simpa using hcs⟩
        · exact ⟨_, _, _, by simpa using hcs⟩
      obtain ⟨A', n', c', hv⟩ := hform
      rw [hv] at ht
      obtain ⟨l, h1, h2⟩ := open_bs_bulk (d := D i) (p := Pl i) hsp ⟨n, ht⟩ (by omega)
      refine ⟨l, ⟨A', n', c', hv, h1⟩, ?_⟩
      rw [h1.rb.1]
      exact h2)
    refine ⟨(List.range len).map L, ⟨by simp, hl, hm, fun h => (by cases h), fun k hk => ?_⟩, ?_⟩
    · obtain ⟨⟨A', n', c', hv, h1⟩, _⟩ := hL k hk
      obtain ⟨hc, _⟩ := hel k (by omega)
      obtain ⟨b, off, spot⟩ := x
      have hspot : spot = none := by simpa [Addr.add] using World.cell?_spot (hel 0 (by omega)).1
      subst hspot
      refine ⟨b, off, rfl, A', n', c', ?_, ?_⟩
      · rw [Addr.add_lit] at hc
        rw [hc, hv]
      · rw [List.getD_eq_getElem?_getD, List.getElem?_map, List.getElem?_range hk]
        exact h1
    · have := bulks.sum_le D L (List.range len) fun i hi => (hL i (List.mem_range.1 hi)).2
      rw [List.length_range] at this
      omega

end Go.Proofs.Ytgcglnohpmpnkaa
