/- Contracts: the delta and the reply of a refusal, where it may be. -/
import Derived.Test.YtfgjiidbafdndaaGreatDoorK20
namespace Go.Proofs.YtfgjiidbafdndaaGreatDoor
open Go.RowKit
set_option maxHeartbeats 16000000
set_option maxRecDepth 100000
abbrev ZP29b0 (x0 : World) : World := ((x0.alloc (.cells #[.int .i64 0, .int .i32 0, .int .i64 0, .int .i64 0, .int .i32 0, .string ⟨#[]⟩, .slice none 0 0, .slice none 0 0, .int .i64 0, .int .i32 0, .int .i32 0, .bool false, .int .i64 0, .int .i64 0, .int .i64 0, .int .i32 0, .slice none 0 0, .slice none 0 0, .int .i32 0, .slice none 0 0] 35)).alloc (.cells #[.int .i32 0, .int .i64 0, .int .i32 0, .int .i32 0, .int .i32 0, .string ⟨#[]⟩, .int .i64 0, .int .i64 0, .int .i64 0, .int .i64 0, .int .i32 0, .int .i32 0, .int .i32 0, .int .i64 0, .int .i32 0, .int .i32 0, .int .i64 0, .slice none 0 0, .slice none 0 0, .slice none 0 0, .int .i32 0, .int .i64 0, .int .i32 0, .slice none 0 0, .slice none 0 0] 42))
abbrev ZP29b1 : Array Value := #[.int .i64 0, .int .i32 0, .int .i64 0, .int .i64 0, .int .i32 0, .string ⟨#[]⟩, .slice none 0 0, .slice none 0 0, .int .i64 0, .int .i32 0, .int .i32 0, .bool false, .int .i64 0, .int .i64 0, .int .i64 0, .int .i32 0, .slice none 0 0, .slice none 0 0, .int .i32 0, .slice none 0 0]
abbrev ZP29b2 : Array Value := #[.int .i32 0, .int .i64 0, .int .i32 0, .int .i32 0, .int .i32 0, .string ⟨#[]⟩, .int .i64 0, .int .i64 0, .int .i64 0, .int .i64 0, .int .i32 0, .int .i32 0, .int .i32 0, .int .i64 0, .int .i32 0, .int .i32 0, .int .i64 0, .slice none 0 0, .slice none 0 0, .slice none 0 0, .int .i32 0, .int .i64 0, .int .i32 0, .slice none 0 0, .slice none 0 0]
theorem rrefused_good (s x z t c : Int) (h1 : ¬ z < 1) (h2 : ¬ 0 ≤ c) (w : World) : Calls Tryz.prog 13 #[.int .i64 s, .int .i32 x, .int .i64 z, .int .i64 t, .int .i32 c] w fun E W => OutPost w (preD s x z t) (.mk { zTxn with type := -1, code := c } []) (preR x z c) (.mk zRes []) 0 E W := by
 obtain ⟨v, hv⟩ : ∃ v, Value.int .i64 s = v := ⟨_, rfl⟩
 have hpre : preD s x z t = [v, .int .i32 x, .int .i64 z, .int .i64 t] := by unfold preD; rw [hv]
 rw [hv, hpre]
 have HBU : RowKit.Hid (Tryz.prog.built 35 [(0, v), (1, .int .i32 x), (2, .int .i64 z), (3, .int .i64 t), (4, .agg (errTxn (-1) c).toArray)] = some ([v, .int .i32 x, .int .i64 z, .int .i64 t] ++ errTxn (-1) c).toArray) := Lib.hid (by rw [← hv]; exact built35 s x z t (errTxn (-1) c) rfl)
 have HO1 : RowKit.Hid (([v, .int .i32 x, .int .i64 z, .int .i64 t] ++ errTxn (-1) c).toArray.all (·.oneCell') = true) := Lib.hid (by rw [← hpre]; exact preD_one s x z t (errTxn (-1) c) (errTxn_one (-1) c))
 clear hv hpre
 have hb0 : Below w.heap.size w ((ZP29b0 w).alloc (.cells ([v, .int .i32 x, .int .i64 z, .int .i64 t] ++ errTxn (-1) c).toArray 35)) := (((Below.refl w.heap.size w).alloc (Nat.le_refl _) (.cells ZP29b1 35)).alloc (by simp) (.cells ZP29b2 42)).alloc (by simp; omega) _
 have hz1 : ((ZP29b0 w).alloc (.cells ([v, .int .i32 x, .int .i64 z, .int .i64 t] ++ errTxn (-1) c).toArray 35)).heap[w.heap.size]? = some (.cells ZP29b1 35 (0, 0)) := by
  rw [Below.heap_alloc _ _ _ (by simp; omega), Below.heap_alloc _ _ _ (by simp)]; exact heap_alloc_new w _
 have hz2 : ((ZP29b0 w).alloc (.cells ([v, .int .i32 x, .int .i64 z, .int .i64 t] ++ errTxn (-1) c).toArray 35)).heap[w.heap.size + 1]? = some (.cells ZP29b2 42 (0, 0)) := by
  rw [Below.heap_alloc _ _ _ (by simp)]; exact heap_alloc2_new w _ _
 have hrD : ((ZP29b0 w).alloc (.cells ([v, .int .i32 x, .int .i64 z, .int .i64 t] ++ errTxn (-1) c).toArray 35)).rangeAt (w.heap.size + 2) 0 ([v, .int .i32 x, .int .i64 z, .int .i64 t] ++ errTxn (-1) c) := by
  have := new_range (ZP29b0 w) ([v, .int .i32 x, .int .i64 z, .int .i64 t] ++ errTxn (-1) c) 35
  rwa [show (ZP29b0 w).heap.size = w.heap.size + 2 by simp] at this
 have hlt : w.heap.size + 2 < ((ZP29b0 w).alloc (.cells ([v, .int .i32 x, .int .i64 z, .int .i64 t] ++ errTxn (-1) c).toArray 35)).heap.size := by simp
 have HD : RowKit.Hid (((ZP29b0 w).alloc (.cells ([v, .int .i32 x, .int .i64 z, .int .i64 t] ++ errTxn (-1) c).toArray 35)).heap[w.heap.size + 2]? = some (.cells ([v, .int .i32 x, .int .i64 z, .int .i64 t] ++ errTxn (-1) c).toArray 35 (0, 0))) := Lib.hid (by
  have := heap_alloc_new (ZP29b0 w) (.cells ([v, .int .i32 x, .int .i64 z, .int .i64 t] ++ errTxn (-1) c).toArray 35)
  rwa [show (ZP29b0 w).heap.size = w.heap.size + 2 by simp] at this)
 have hlt0 : w.heap.size < ((ZP29b0 w).alloc (.cells ([v, .int .i32 x, .int .i64 z, .int .i64 t] ++ errTxn (-1) c).toArray 35)).heap.size := by omega
 have hlt1 : w.heap.size + 1 < ((ZP29b0 w).alloc (.cells ([v, .int .i32 x, .int .i64 z, .int .i64 t] ++ errTxn (-1) c).toArray 35)).heap.size := by omega
 have HIL := i35 (cs := [v, .int .i32 x, .int .i64 z, .int .i64 t] ++ errTxn (-1) c) rfl
 have HK2 : RowKit.Hid ((ZP29b0 w).heap.size = w.heap.size + 2) := Lib.hid (by simp)
 have HCZ : RowKit.Hid ((ZP29b1 : Array Value).size = ([v, .int .i32 x, .int .i64 z, .int .i64 t] ++ errTxn (-1) c).toArray.size) := Lib.hid rfl
 have HI := i35a (cs := [v, .int .i32 x, .int .i64 z, .int .i64 t] ++ errTxn (-1) c) rfl
 have HJ := i42a (cs := preR x z c ++ zResL) rfl
 have HO2 := Lib.hid (preR_one x z c zResL zResL_one)
 go_enter Tryz.func13, Tryz.ntmps13
 go_wp2_with (first
  | (refine wpList_build_to rfl 33 _ rfl (errTxn (-1) c).toArray (by exact built33e c) ?_)
  | (refine wpList_build_to rfl 35 _ rfl ([v, .int .i32 x, .int .i64 z, .int .i64 t] ++ errTxn (-1) c).toArray (by exact HBU.out) ?_)
  | (with_reducible refine wpList_store_newk rfl 35 (.tmp 13) (.tmp 28) rfl (w.heap.size + 2) ZP29b1 ([v, .int .i32 x, .int .i64 z, .int .i64 t] ++ errTxn (-1) c).toArray HK2.out rfl rfl HI.out HCZ.out HO1.out ?_; generalize ((ZP29b0 w).alloc (.cells ([v, .int .i32 x, .int .i64 z, .int .i64 t] ++ errTxn (-1) c).toArray 35)) = V at hz1 hz2 HD hb0 hlt hlt0 hlt1 ⊢; have hbw2 := below_setRow hb0 (g := w.heap.size) (Nat.le_refl _) ([v, .int .i32 x, .int .i64 z, .int .i64 t] ++ errTxn (-1) c).toArray; have rD : V.rangeAt (w.heap.size + 2) 0 ([v, .int .i32 x, .int .i64 z, .int .i64 t] ++ errTxn (-1) c) := (by (have := st_range HD.out; rwa [List.toList_toArray] at this)); have hr1 := setRow_heap V w.heap.size _ ([v, .int .i32 x, .int .i64 z, .int .i64 t] ++ errTxn (-1) c).toArray 35 (0, 0) hz1; have hz2' : (V.setRow w.heap.size ([v, .int .i32 x, .int .i64 z, .int .i64 t] ++ errTxn (-1) c).toArray).heap[w.heap.size + 1]? = _ := (setRow_apart V _ _ ([v, .int .i32 x, .int .i64 z, .int .i64 t] ++ errTxn (-1) c).toArray (by omega)).trans hz2; have hr2 := setRow_heap (V.setRow w.heap.size ([v, .int .i32 x, .int .i64 z, .int .i64 t] ++ errTxn (-1) c).toArray) (w.heap.size + 1) _ (preR x z c ++ zResL).toArray 42 (0, 0) hz2'; have hr1' : ((V.setRow w.heap.size ([v, .int .i32 x, .int .i64 z, .int .i64 t] ++ errTxn (-1) c).toArray).setRow (w.heap.size + 1) (preR x z c ++ zResL).toArray).heap[w.heap.size]? = _ := (setRow_apart (V.setRow w.heap.size ([v, .int .i32 x, .int .i64 z, .int .i64 t] ++ errTxn (-1) c).toArray) _ _ (preR x z c ++ zResL).toArray (by omega)).trans hr1; have hbw3 := below_setRow hbw2 (g := w.heap.size + 1) (by omega) (preR x z c ++ zResL).toArray)
  | (with_reducible refine wpList_load_mid rfl 35 (.tmp 13) rfl (w.heap.size + 2) 0 rfl ([v, .int .i32 x, .int .i64 z, .int .i64 t] ++ errTxn (-1) c) _ rD Tryz.underlying35 rfl HIL.out ?_)
  | (refine wpList_build_to rfl 42 _ rfl (preR x z c ++ zResL).toArray (by exact built42c x z c) ?_)
  | (with_reducible refine wpList_store_row rfl 35 (.tmp 10) (.tmp 29) rfl w.heap.size ([v, .int .i32 x, .int .i64 z, .int .i64 t] ++ errTxn (-1) c).toArray rfl rfl 35 _ hz1 HI.out rfl HO1.out ?_)
  | (with_reducible refine wpList_store_row rfl 42 (.tmp 11) (.tmp 33) rfl (w.heap.size + 1) (preR x z c ++ zResL).toArray rfl rfl 42 _ hz2' HJ.out rfl HO2.out ?_)
  | fail)
 refine bodyPost_ret (results_three rfl _ _ w.heap.size (w.heap.size + 1) 35 42 _ _ (0, 0) (0, 0) _ _ (.int .i64 0) rfl hr1' Tryz.underlying35 rfl HI.out rfl hr2 Tryz.underlying42 rfl HJ.out rfl) rfl ?_
 exact ⟨fun _ => False, _, _, rfl, errTxn_r _ _ (-1) c, zRes_r _ _, fun _ h => h.elim, hbw3⟩
end Go.Proofs.YtfgjiidbafdndaaGreatDoor
