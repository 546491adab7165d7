/- What has come of bytes in pieces: from round to round. -/
import Derived.Test.YtgcglnohpmpnkaaM5
namespace Go.Proofs.Ytgcglnohpmpnkaa
open Go.RowKit

def PInv (B : List UInt8) (g : Nat) (w6 : World) (gv : Value) (p : Nat) (W : World) : Prop :=
  ∃ (ys : List (Value × List UInt8)) (a' e' : Nat) (A7 : Option Addr) (n7 c7 : Nat), Spl (B.take p) (ys.map (·.2)) a' e' ∧ pe e' = 0 ∧ W.ownsRow (g + 1) 22 1 gv ys.length (ys.map (·.1)) ∧ RowsOf (g + 1) ys W ∧
    BS W A7 n7 c7 ((B.take p).drop a') ∧ W.heap[g]? = some (.cells #[.slice A7 n7 c7, .int .i64 (0 : Nat)] 54 (0, 0)) ∧ Below g w6 W
theorem RowsOf.mono {B B' : Nat} {xs : List (Value × List UInt8)} {W : World} (h : RowsOf B xs W) (hb : B' ≤ B) : RowsOf B' xs W := fun x hx => ⟨own_mono (h x hx).1 hb, (h x hx).2⟩
theorem RowsOf.append {B : Nat} {xs ys : List (Value × List UInt8)} {W : World} (h : RowsOf B xs W) (h' : RowsOf B ys W) : RowsOf B (xs ++ ys) W := fun x hx => by
  rcases List.mem_append.1 hx with hx | hx
  · exact h x hx
  · exact h' x hx

theorem pieces_post {B : List UInt8} {g p k f c : Nat} {zs : List (List UInt8)} {w6 wr w8 : World} {gv : Value} {en : Ending} {ys : List (Value × List UInt8)} {a' e' : Nat} (hB : Spl B zs c f) (hf : f = 0 ∨ f = 41) (hBl : B.length ≤ 16777216) (hpk : p ≤ k) (hk : k ≤ B.length)
    (S : Spl (B.take p) (ys.map (·.2)) a' e') (own7 : wr.ownsRow (g + 1) 22 1 gv ys.length (ys.map (·.1))) (rows7 : RowsOf (g + 1) ys wr) (hg : g < wr.heap.size) (hg6 : g = w6.heap.size) (bel7 : Below g w6 wr)
    (hpost : PushPost g 54 ((B.take p).drop a' ++ (B.drop p).take (k - p)) wr en w8) :
    ∃ (Av : Option Addr) (cv m8 : Nat) (news : List Value), en = .returned (.tuple #[.slice Av m8 cv, .int .i64 0]) ∧ Rd w8 Av m8 news ∧ (m8 = 0 → Av = none → cv = 0) ∧ (∀ u ∈ news, u.oneCell' = true) ∧
      w8.ownsRow (g + 1) 22 1 gv ys.length (ys.map (·.1)) ∧ ys.length + m8 ≤ 16777216 ∧ g + 1 ≤ w8.heap.size ∧
      ∀ v9 w9, w9.ownsRow (g + 1) 22 1 v9 (ys.length + m8) (ys.map (·.1) ++ news) → w8.grownBy w9 gv.ownBlock → PInv B g w6 v9 k w9 := by
  obtain ⟨v8, xs8, a8, e8, b0, A8, n8, c8, rfl, S8, hb0, hb0', own8, rows8, hA8, hA8b, hs8, ch8⟩ := hpost
  have hal := S.le.1
  have hcat : B.take p ++ (B.drop p).take (k - p) = B.take k := by
    have := @List.take_add _ B p (k - p)
    rw [show p + (k - p) = k by omega] at this
    exact this.symm
  have S9 := spl_more S S8
  rw [hcat] at S9
  have hpe : pe e8 = 0 := spl_prefix hB hf S9 (List.take_append_drop k B)
  have hle9 := S9.le
  rw [List.length_take, List.length_append, List.length_map, List.length_map] at hle9
  obtain ⟨Av, cv, rfl, hc1, hc2, hn0, hrd, _, _⟩ := ownsRow_form own8
  have hsz := ch8.size
  have own8' := own_chg own7 ch8 (fun q hq => by have := own7.lt q hq; omega)
  have hdrop : pw ((B.take p).drop a' ++ (B.drop p).take (k - p)) a8 e8 = (B.take k).drop (a' + a8) := by
    unfold pw
    rw [if_pos hpe, ← hcat, ← List.drop_drop, List.drop_append_of_le_length hal]
  rw [hdrop] at hA8
  rw [hpe] at hs8 ⊢
  refine ⟨Av, cv, xs8.length, xs8.map (·.1), rfl, hrd, hn0, ?_, own8', by omega, by omega, fun v9 w9 own9 g9 => ?_⟩
  · intro u hu
    obtain ⟨x, hx, rfl⟩ := List.mem_map.1 hu
    exact own_one (rows8 x hx).1
  · have hgb : ∀ q, gv.ownBlock = some q → g + 1 ≤ q ∧ q < wr.heap.size := fun q hq => own7.lt q hq
    refine ⟨ys ++ xs8, a' + a8, e8, A8, n8, c8, by rw [List.map_append]; exact S9, hpe, by rw [List.length_append, List.map_append]; exact own9, ?_, ?_, ?_, ?_⟩
    · exact RowsOf.app ((rows_chg rows7 ch8 (fun q hq => by omega)).append (rows8.mono (by omega))) own8' g9 rfl
    · refine hA8.block fun h0 b o s hb => g9.block b (hA8.at_lt h0 hb) fun q => ?_
      have h1 := hA8b b o s hb
      have h2 := hgb b q.symm
      omega
    · exact (g9.block g (by omega) fun q => by have := hgb g q.symm; omega).trans hs8
    · exact (bel7.trans (ch8.below (by omega) (by intro q hq; omega))).grown g9 (by omega) fun q hq => by have := hgb q hq; omega
end Go.Proofs.Ytgcglnohpmpnkaa
