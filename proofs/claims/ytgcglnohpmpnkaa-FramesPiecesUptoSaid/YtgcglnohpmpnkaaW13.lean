/- Contracts: the document's Split; two slices of slices that hold the same. -/
import Derived.Test.YtgcglnohpmpnkaaW12
namespace Go.Proofs.Ytgcglnohpmpnkaa
open Go.RowKit

/-- The rows that are collected. -/
def RowsOf (B : Nat) (xs : List (Value × List UInt8)) (W : World) : Prop := ∀ x ∈ xs, W.ownsRow B 5 1 x.1 x.2.length (bl x.2) ∧ x.2.length ≤ 16777216
theorem RowsOf.keep {B : Nat} {xs : List (Value × List UInt8)} {W W' : World} (h : RowsOf B xs W) (hk : ∀ k, B ≤ k → k < W.heap.size → (∃ cur fr, W.heap[k]? = some (.cells cur 5 fr)) → W'.heap[k]? = W.heap[k]?) : RowsOf B xs W' := by
  intro x hx
  obtain ⟨⟨hl, h1⟩, h2⟩ := h x hx
  refine ⟨⟨hl, ?_⟩, h2⟩
  rcases h1 with q | ⟨g, cap, cur, hv, hb, hh, r⟩
  · exact .inl q
  · exact .inr ⟨g, cap, cur, hv, hb, (hk g hb (Array.getElem?_eq_some_iff.1 hh).1 ⟨_, _, hh⟩).trans hh, r⟩
theorem RowsOf.below {B : Nat} {xs : List (Value × List UInt8)} {W W' : World} (h : RowsOf B xs W) (hb : Below W.heap.size W W') : RowsOf B xs W' := h.keep fun k _ hk _ => hb.block k hk
theorem RowsOf.snoc {B : Nat} {xs : List (Value × List UInt8)} {x : Value × List UInt8} {W : World} (h : RowsOf B xs W) (hx : W.ownsRow B 5 1 x.1 x.2.length (bl x.2) ∧ x.2.length ≤ 16777216) : RowsOf B (xs ++ [x]) W := by
  intro y hy
  rcases List.mem_append.1 hy with hy | hy
  · exact h y hy
  · obtain rfl : y = x := by simpa using hy
    exact hx
/-- Rows of bytes stand when a row of slices is written. -/
theorem RowsOf.app {B : Nat} {xs ys : List (Value × List UInt8)} {W W' : World} {v : Value} {n : Nat} {zs : List Value} (h : RowsOf B xs W) (ho : W.ownsRow B 22 1 v n zs) (hg : W.grownBy W' v.ownBlock) (_ : ys = xs) : RowsOf B xs W' := by
  refine h.keep fun k _ hk ⟨cur, fr, hh⟩ => hg.block k hk fun q => ?_
  rcases ho.2 with ⟨rfl, _⟩ | ⟨g, cap, cur', rfl, _, hg', _⟩
  · simp [Value.ownBlock] at q
  · simp only [Value.ownBlock, Option.some.injEq] at q
    subst q
    rw [hh] at hg'
    injection hg' with h1
    injection h1 with _ h2
    exact absurd h2 (by decide)

set_option maxHeartbeats 1000000 in
theorem splitref_any (A : Option Addr) (n cap : Nat) (l : List UInt8) (w0 : World) (h : BS w0 A n cap l) (hn : n ≤ 16777216) :
    Calls Try.prog 22 #[.slice A n cap] w0 (SplitPost w0.heap.size l w0) := by
  have hl := Lib.hid h.rb.1
  have hcap := h.le
  have hcap63 := h.cap63
  unfold maxLen at hcap63
  go_enter Try.func22, Try.ntmps22
  go_wp2_with fail
  go_loopw [5, 6] (fun v i wr => ∃ (xs : List (Value × List UInt8)) (a : Nat), i = .int .i64 a ∧ SplTo l (xs.map (·.2)) a ∧ wr.ownsRow w0.heap.size 22 1 v xs.length (xs.map (·.1)) ∧ RowsOf w0.heap.size xs wr ∧ Below w0.heap.size w0 wr) (fun _ i _ => n - (intOf i).toNat)
  case atStart => exact ⟨[], 0, rfl, SplTo.start l, World.ownsRow_nil _ _ _ _, (fun x hx => by cases hx), Below.refl _ _⟩
  case round =>
    obtain ⟨xs, a, rfl, hS, hown, hrows, hbel⟩ := hrel
    have HS := Lib.hid hS
    by_cases hlt : a < n
    · have hd := (h.below hbel).from_ a (by omega)
      have hs := run_sub_l sB A n cap (a : Int) a rfl (by omega)
      generalize subA A cap a = Aa at *
      obtain ⟨Av, cv, rfl, _⟩ := ownsRow_form hown
      by_cases hE : nextE (l.drop a) = 0
      · have hk := nextE_ok hE
        have HL := Lib.hid (nextL_length hE)
        have HT := Lib.hid (hS.step hE)
        rw [List.length_drop, hl.out] at hk
        have hm1 : num4 (l.drop a) + 8 ≤ n - a := hk.2.2.1
        have hm2 := hk.2.1
        have hx8 : 8 * xs.length ≤ a := by have := hS.2.1; simpa using this
        have HN := Lib.hid (next_good Aa (n - a) (cap - a) _ wr hd hE)
        have HN' := Lib.hid (nextref_good Aa (n - a) (cap - a) _ wr hd hE)
        clear hk hS HN
        generalize nextL (l.drop a) = ld at *
        generalize num4 (l.drop a) = m at *
        go_wp2_with (first
          | (go_at_call 20; refine HN'.out.mono ?_; rintro e w2 ⟨v2, rfl, hown2, hb2⟩; obtain ⟨A2, c2, rfl, _⟩ := ownsRow_form hown2; have hown' := own_below hown hb2 (Nat.le_refl _); have hrows' := hrows.below hb2; have hbel' := hbel.trans (hb2.mono hbel.size); have hrd := rd_new1 w2 (.slice A2 m c2) 22)
          | (at_builtin; refine wpList_app sBB rfl (.tmp 27) (.tmp 29) rfl w0.heap.size _ xs.length _ rfl (hown'.alloc _) _ 1 1 _ rfl hrd (by intro h; omega) (by intro u hu; simp at hu; subst hu; rfl) (by unfold maxLen; omega) (by omega) (by have := hbel'.size; simp; omega) ?_; intro v3 w3 hown3 hg3 hat3))
        go_roundw
        case rel =>
          refine ⟨xs ++ [(.slice A2 m c2, ld)], a + (m + 8), by go_num, by rw [List.map_append]; exact HT.out, by simpa using hown3, ?_, ?_⟩
          · have hr2 := (hrows'.snoc (x := (.slice A2 m c2, ld)) ⟨by rw [HL.out]; exact own_mono hown2 hbel.size, by rw [HL.out]; exact hm2⟩).below ((Below.refl _ w2).alloc (Nat.le_refl _) (.cells #[.slice A2 m c2] 22))
            exact hr2.app (hown'.alloc _) hg3 rfl
          · exact below_app (hbel'.alloc hbel'.size _) hg3 (hown'.alloc _) (Nat.le_refl _) (by have := hbel'.size; simp; omega)
        case measure => simp [intOf]; omega
      · have hne : ((nextE (l.drop a) : Int) != 0) = true := by rw [bne_iff_ne]; omega
        have HN' := Lib.hid (nextref_fail Aa (n - a) (cap - a) _ wr hd hE)
        have HT := Lib.hid (hS.stop (by rw [hl.out]; exact hlt) hE)
        clear hS
        generalize nextE (l.drop a) = ee at *
        go_wp2_with (go_at_call 20; refine HN'.out.mono ?_; rintro e w2 ⟨rfl, hb2⟩)
        go_ret3
        exact ⟨_, xs, a, ee, rfl, own_below hown hb2 (Nat.le_refl _), hrows.below hb2, HT.out, hbel.trans (hb2.mono hbel.size)⟩
    · obtain rfl : a = n := by have := hS.1; rw [hl.out] at this; omega
      clear hS
      go_wp2_with fail
      go_ret3
      exact ⟨_, xs, a, 0, rfl, hown, hrows, HS.out.done (by rw [hl.out]; omega), hbel⟩
end Go.Proofs.Ytgcglnohpmpnkaa
