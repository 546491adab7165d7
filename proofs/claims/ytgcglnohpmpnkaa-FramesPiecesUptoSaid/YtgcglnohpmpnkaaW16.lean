/- Contracts: the document's Push. -/
import Derived.Test.YtgcglnohpmpnkaaW15
namespace Go.Proofs.Ytgcglnohpmpnkaa
open Go.RowKit

theorem chg010 (g : Nat) (w : World) (a b c : Value) : Chg (· = g) w (((w.setCell ⟨g, 0, none⟩ a).setCell ⟨g, 1, none⟩ b).setCell ⟨g, 0, none⟩ c) :=
  (chg1 g w a).trans ((Chg.setCell (· = g) _ ⟨g, 1, none⟩ b rfl).trans (chg1 g _ c))

theorem pushref_ok (g : Nat) (A B : Option Addr) (n cap m cb : Nat) (l lb : List UInt8) (w : World) (hg : w.heap[g]? = some (.cells #[.slice A n cap, .int .i64 0] 57 (0, 0))) (hA : BS w A n cap l) (hB : BS w B m cb lb) (hn : n + m ≤ 16777216) :
    Calls Try.prog 28 #[.pointer (some ⟨g, 0, none⟩), .slice B m cb] w (PushPost g 57 (l ++ lb) w) := by
  have hg0 := st_cell0 hg
  have hg1 := st_cell1 hg
  have hgl := (Array.getElem?_eq_some_iff.1 hg).1
  have HL := Lib.hid hA.rb.1
  have HB := Lib.hid hB.rb.1
  have ho : (w.alloc (.cells #[] 5)).ownsRow w.heap.size 5 1 (.slice (some ⟨w.heap.size, 0, none⟩) 0 0) 0 [] := World.ownsRow_made w #[] 0 (Nat.le_refl _) (by decide) rfl
  go_enter Try.func28, Try.ntmps28
  go_wp2_with (first
    | (at_builtin; refine wpList_app sB rfl (.tmp 19) (.tmp 23) rfl w.heap.size _ 0 [] rfl ho A n cap (bl l) rfl (hA.alloc _).rb.rd (fun _ => hA.nil) (bl_one l) (by unfold maxLen; omega) (by omega) (by simp) ?_; intro v1 w1 own1 g1 at1; rw [Nat.zero_add, List.nil_append] at own1; obtain ⟨A1, c1, rfl, m1⟩ := own_bs own1 (by omega); clear at1; have b1 := below_app ((Below.refl _ _).alloc (Nat.le_refl _) _) g1 ho (Nat.le_refl _) (by simp); clear g1; have hB1 := hB.below b1)
    | (at_builtin; refine wpList_app sB rfl (.tmp 24) (.tmp 25) rfl w.heap.size _ n _ rfl own1 B m cb _ rfl hB1.rb.rd (fun _ => hB1.nil) (bl_one _) (by unfold maxLen; omega) (by omega) b1.size ?_; intro v2 w2 own2 g2 at2; rw [← bl_append] at own2; obtain ⟨A2, c2, rfl, m2⟩ := own_bs own2 (by omega); clear at2; have b2 := below_app b1 g2 own1 (Nat.le_refl _) b1.size; clear g2; have hg2 : w2.heap[g]? = some (.cells #[.slice A n cap, .int .i64 0] 57 (0, 0)) := (b2.block g hgl).trans hg; have hd2 := st_cell0 hg2; have hc2 := st_free hg2 0)
    )
  have hg2' := st_set0 hg2 (.slice A2 (n + m) c2)
  have ch2 := (Chg.of_below (S := (· = g)) b2).trans (chg1 g w2 (.slice A2 (n + m) c2))
  have own2' := own_chg own2 (chg1 g w2 (.slice A2 (n + m) c2)) (fun k hk => by have := own2.lt k hk; omega)
  generalize w2.setCell ⟨g, 0, none⟩ (.slice A2 (n + m) c2) = w2' at *
  obtain ⟨A2', c2', e2, m2'⟩ := own_bs own2' (by omega)
  injection e2 with eA _ ec
  subst eA ec
  clear own2 hg2 hd2 hc2 b1 b2 m1 own1 hB1 m2
  refine (splitref_any A2 (n + m) c2 _ w2' m2' hn).mono ?_
  rintro e w3 ⟨v3, xs, a, er, rfl, own3, rows3, sp3, b3⟩
  have hg3 : w3.heap[g]? = some (.cells #[.slice A2 (n + m) c2, .int .i64 0] 57 (0, 0)) := (b3.block g (by have := ch2.size; omega)).trans hg2'
  have hd0 := st_cell0 hg3
  have hd1 := st_cell1 hg3
  have hc0 := st_free hg3 0
  have hc1 := st_free hg3 1
  have hle := sp3.le
  have hc2 := m2'.le
  rw [List.length_append, HL.out, HB.out] at hle
  have hale := hle.1
  have hs := run_sub_l sB A2 (n + m) c2 (a : Int) a rfl hale
  have er4 := sp3.er_cases
  obtain ⟨A3, hA3⟩ : ∃ A3, A3 = subA A2 c2 a := ⟨_, rfl⟩
  rw [← hA3] at hs
  have HA := Lib.hid hA3
  have HM := Lib.hid m2'
  clear hA3 m2'
  rcases er4 with rfl | rfl | rfl | rfl
  · go_wp2_with fail
    go_ret2
    exact push_fin g 57 w w2' w3 _ _ _ _ a 0 A2 v3 xs hgl own2' HM.out ch2 own3 rows3 sp3 b3 (chg1 _ _ _) A3 _ _ (.inr ⟨HA.out, rfl, rfl, rfl⟩) (st_set0 hg3 _)
  · go_wp2_with fail
    go_ret2
    exact push_fin g 57 w w2' w3 _ _ _ _ a 3 A2 v3 xs hgl own2' HM.out ch2 own3 rows3 sp3 b3 (chg010 _ _ _ _ _) none 0 0 (.inl ⟨rfl, rfl, rfl, by decide⟩) (st_set0 (st_set1 (st_set0 hg3 _) _) _)
  · go_wp2_with fail
    go_ret2
    exact push_fin g 57 w w2' w3 _ _ _ _ a 40 A2 v3 xs hgl own2' HM.out ch2 own3 rows3 sp3 b3 (chg010 _ _ _ _ _) none 0 0 (.inl ⟨rfl, rfl, rfl, by decide⟩) (st_set0 (st_set1 (st_set0 hg3 _) _) _)
  · go_wp2_with fail
    go_ret2
    exact push_fin g 57 w w2' w3 _ _ _ _ a 41 A2 v3 xs hgl own2' HM.out ch2 own3 rows3 sp3 b3 (chg1 _ _ _) A3 _ _ (.inr ⟨HA.out, rfl, rfl, rfl⟩) (st_set0 hg3 _)

theorem pushref_broken (g : Nat) (A B : Option Addr) (n cap m cb er : Nat) (w : World) (hg : w.heap[g]? = some (.cells #[.slice A n cap, .int .i64 er] 57 (0, 0))) (he : er ≠ 0) :
    Calls Try.prog 28 #[.pointer (some ⟨g, 0, none⟩), .slice B m cb] w fun e w' => e = .returned (.tuple #[.slice none 0 0, .int .i64 er]) ∧ ∃ k, w' = w.drewN k := by
  have hg1 := st_cell1 hg
  have hne : ((er : Int) != 0) = true := by rw [bne_iff_ne]; omega
  go_enter Try.func28, Try.ntmps28
  go_wp2_with fail
  go_quiet (fail)
  go_wp2_with fail
  go_ret2
  exact ⟨rfl, _, rfl⟩
end Go.Proofs.Ytgcglnohpmpnkaa
