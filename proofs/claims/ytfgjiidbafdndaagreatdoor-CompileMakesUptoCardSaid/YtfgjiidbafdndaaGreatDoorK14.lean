/- Contracts: what is kept of a transaction. -/
import Derived.Test.YtfgjiidbafdndaaGreatDoorK12
namespace Go.Proofs.YtfgjiidbafdndaaGreatDoor
open Go.RowKit
set_option maxHeartbeats 64000000
set_option maxRecDepth 100000
theorem kept_13 : Kept106 13 := by
 intro f a1 a2 a3 a4 a5 n1 n2 n3 n4 n5 c1 c2 c3 c4 c5 w ht
 obtain ⟨K, hK⟩ := nm (keptC f (.slice a1 n1 c1) (.slice a2 n2 c2) (.slice a3 n3 c3) (.slice a4 n4 c4) (.slice a5 n5 c5))
 rw [hK]
 simp [keptC, keptF, keptV, TxnF.cells, hasF, fieldsL, ht] at hK
 subst hK
 unfold TxnF.cells
 rw [ht]
 clear ht
 go_enter Tryz.func106, Tryz.ntmps106
 go_wp2
 refine bodyPost_ret (results_cell_row rfl _ _ (w.heap.size + 1) 33 _ (0, 0) _ rfl (heap_mid w _ _ _) Tryz.underlying33 rfl (by kernel_rfl)) rfl ?_
 exact ⟨rfl, (((Below.refl w.heap.size w).alloc (Nat.le_refl _) _).alloc (by simp) _).alloc (by simp; omega) _⟩
theorem kept_14 : Kept106 14 := by
 intro f a1 a2 a3 a4 a5 n1 n2 n3 n4 n5 c1 c2 c3 c4 c5 w ht
 obtain ⟨K, hK⟩ := nm (keptC f (.slice a1 n1 c1) (.slice a2 n2 c2) (.slice a3 n3 c3) (.slice a4 n4 c4) (.slice a5 n5 c5))
 rw [hK]
 simp [keptC, keptF, keptV, TxnF.cells, hasF, fieldsL, ht] at hK
 subst hK
 unfold TxnF.cells
 rw [ht]
 clear ht
 go_enter Tryz.func106, Tryz.ntmps106
 go_wp2
 refine bodyPost_ret (results_cell_row rfl _ _ (w.heap.size + 1) 33 _ (0, 0) _ rfl (heap_mid w _ _ _) Tryz.underlying33 rfl (by kernel_rfl)) rfl ?_
 exact ⟨rfl, (((Below.refl w.heap.size w).alloc (Nat.le_refl _) _).alloc (by simp) _).alloc (by simp; omega) _⟩
theorem kept_120 : Kept106 120 := by
 intro f a1 a2 a3 a4 a5 n1 n2 n3 n4 n5 c1 c2 c3 c4 c5 w ht
 obtain ⟨K, hK⟩ := nm (keptC f (.slice a1 n1 c1) (.slice a2 n2 c2) (.slice a3 n3 c3) (.slice a4 n4 c4) (.slice a5 n5 c5))
 rw [hK]
 simp [keptC, keptF, keptV, TxnF.cells, hasF, fieldsL, ht] at hK
 subst hK
 unfold TxnF.cells
 rw [ht]
 clear ht
 go_enter Tryz.func106, Tryz.ntmps106
 go_wp2
 refine bodyPost_ret (results_cell_row rfl _ _ (w.heap.size + 1) 33 _ (0, 0) _ rfl (heap_mid w _ _ _) Tryz.underlying33 rfl (by kernel_rfl)) rfl ?_
 exact ⟨rfl, (((Below.refl w.heap.size w).alloc (Nat.le_refl _) _).alloc (by simp) _).alloc (by simp; omega) _⟩
theorem kept_121 : Kept106 121 := by
 intro f a1 a2 a3 a4 a5 n1 n2 n3 n4 n5 c1 c2 c3 c4 c5 w ht
 obtain ⟨K, hK⟩ := nm (keptC f (.slice a1 n1 c1) (.slice a2 n2 c2) (.slice a3 n3 c3) (.slice a4 n4 c4) (.slice a5 n5 c5))
 rw [hK]
 simp [keptC, keptF, keptV, TxnF.cells, hasF, fieldsL, ht] at hK
 subst hK
 unfold TxnF.cells
 rw [ht]
 clear ht
 go_enter Tryz.func106, Tryz.ntmps106
 go_wp2
 refine bodyPost_ret (results_cell_row rfl _ _ (w.heap.size + 1) 33 _ (0, 0) _ rfl (heap_mid w _ _ _) Tryz.underlying33 rfl (by kernel_rfl)) rfl ?_
 exact ⟨rfl, (((Below.refl w.heap.size w).alloc (Nat.le_refl _) _).alloc (by simp) _).alloc (by simp; omega) _⟩
end Go.Proofs.YtfgjiidbafdndaaGreatDoor
