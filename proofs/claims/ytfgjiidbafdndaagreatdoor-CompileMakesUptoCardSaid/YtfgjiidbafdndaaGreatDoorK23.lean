/- Contracts: the delta and the reply of a transaction, in the document's words. -/
import Derived.Test.YtfgjiidbafdndaaGreatDoorK22
import Derived.Test.YtfgjiidbafdndaaGreatDoorK21
namespace Go.Proofs.YtfgjiidbafdndaaGreatDoor
open Go.RowKit
set_option maxHeartbeats 16000000
set_option maxRecDepth 100000
abbrev ZP310 (x0 : World) (x1 x2 : List Value) : World := ((((x0.alloc (.cells x1.toArray 33)).alloc (.cells x2.toArray 40)).alloc (.cells #[.int .i64 0, .int .i32 0, .int .i64 0, .int .i64 0, .int .i32 0, .string ⟨#[]⟩, .slice none 0 0, .slice none 0 0, .int .i64 0, .int .i32 0, .int .i32 0, .bool false, .int .i64 0, .int .i64 0, .int .i64 0, .int .i32 0, .slice none 0 0, .slice none 0 0, .int .i32 0, .slice none 0 0] 35)).alloc (.cells #[.int .i32 0, .int .i64 0, .int .i32 0, .int .i32 0, .int .i32 0, .string ⟨#[]⟩, .int .i64 0, .int .i64 0, .int .i64 0, .int .i64 0, .int .i32 0, .int .i32 0, .int .i32 0, .int .i64 0, .int .i32 0, .int .i32 0, .int .i64 0, .slice none 0 0, .slice none 0 0, .slice none 0 0, .int .i32 0, .int .i64 0, .int .i32 0, .slice none 0 0, .slice none 0 0] 42))
abbrev ZP311 : Array Value := #[.int .i64 0, .int .i32 0, .int .i64 0, .int .i64 0, .int .i32 0, .string ⟨#[]⟩, .slice none 0 0, .slice none 0 0, .int .i64 0, .int .i32 0, .int .i32 0, .bool false, .int .i64 0, .int .i64 0, .int .i64 0, .int .i32 0, .slice none 0 0, .slice none 0 0, .int .i32 0, .slice none 0 0]
abbrev ZP312 : Array Value := #[.int .i32 0, .int .i64 0, .int .i32 0, .int .i32 0, .int .i32 0, .string ⟨#[]⟩, .int .i64 0, .int .i64 0, .int .i64 0, .int .i64 0, .int .i32 0, .int .i32 0, .int .i32 0, .int .i64 0, .int .i32 0, .int .i32 0, .int .i64 0, .slice none 0 0, .slice none 0 0, .slice none 0 0, .int .i32 0, .int .i64 0, .int .i32 0, .slice none 0 0, .slice none 0 0]
theorem rmade_any (f : TxnF) (subs : List TxnD) (g : ResF) (rsubs : List ResD) (A B : Nat → Prop) (s x z ti : Int) (tc rc : List Value) (w : World) (okT : TxnOk (.mk f subs)) (okR : ResOk (.mk g rsubs)) (hT : TxnR A w (.mk f subs) tc) (hR : ResR B w (.mk g rsubs) rc) (hA : ∀ b, A b → b < w.heap.size) (hB : ∀ b, B b → b < w.heap.size) :
  Calls Tryz.prog 7 #[.int .i64 s, .int .i32 x, .int .i64 z, .int .i64 ti, .agg tc.toArray, .agg rc.toArray] w fun E W => MadePost w s x z ti f subs g rsubs E W := by
 have lt16 : tc.length = 16 := hT.length
 have lt22 : rc.length = 22 := hR.length
 have szA : (ZP310 w tc rc).heap.size = w.heap.size + 4 := by simp
 have bA : Below w.heap.size w (ZP310 w tc rc) := ((((Below.refl w.heap.size w).alloc (Nat.le_refl _) (.cells tc.toArray 33)).alloc (by simp) (.cells rc.toArray 40)).alloc (by simp <;> omega) (.cells ZP311 35)).alloc (by simp <;> omega) _
 have r10 : (ZP310 w tc rc).rangeAt w.heap.size 0 tc := by
  have h : (ZP310 w tc rc).heap[w.heap.size]? = some (.cells tc.toArray 33 (0, 0)) := by
   rw [Below.heap_alloc _ _ _ (by simp <;> omega), Below.heap_alloc _ _ _ (by simp <;> omega), Below.heap_alloc _ _ _ (by simp)]; exact heap_alloc_new w _
  have := st_range h
  rwa [List.toList_toArray] at this
 have r11 : (ZP310 w tc rc).rangeAt (w.heap.size + 1) 0 rc := by
  have h : (ZP310 w tc rc).heap[w.heap.size + 1]? = some (.cells rc.toArray 40 (0, 0)) := by
   rw [Below.heap_alloc _ _ _ (by simp <;> omega), Below.heap_alloc _ _ _ (by simp)]; exact heap_alloc2_new w _ _
  have := st_range h
  rwa [List.toList_toArray] at this
 have hz2 : (ZP310 w tc rc).heap[w.heap.size + 2]? = some (.cells ZP311 35 (0, 0)) := by
  rw [Below.heap_alloc _ _ _ (by simp)]
  have := heap_alloc_new ((w.alloc (.cells tc.toArray 33)).alloc (.cells rc.toArray 40)) (.cells ZP311 35)
  rwa [show ((w.alloc (.cells tc.toArray 33)).alloc (.cells rc.toArray 40)).heap.size = w.heap.size + 2 by simp] at this
 have hz3 : (ZP310 w tc rc).heap[w.heap.size + 3]? = some (.cells ZP312 42 (0, 0)) := by
  have := heap_alloc_new (((w.alloc (.cells tc.toArray 33)).alloc (.cells rc.toArray 40)).alloc (.cells ZP311 35)) (.cells ZP312 42)
  rwa [show (((w.alloc (.cells tc.toArray 33)).alloc (.cells rc.toArray 40)).alloc (.cells ZP311 35)).heap.size = w.heap.size + 3 by simp] at this
 have HI33 : RowKit.Hid ((Tryz.prog.info? 33).map (·.size) = some tc.length) := Lib.hid (by rw [lt16]; kernel_rfl)
 have HI40 : RowKit.Hid ((Tryz.prog.info? 40).map (·.size) = some rc.length) := Lib.hid (by rw [lt22]; kernel_rfl)
 have HBU1 := Lib.hid (built35 s x z ti tc lt16)
 have HBU2 := Lib.hid (built42 x z rc lt22)
 have HK0 : RowKit.Hid ((ZP310 w tc rc).heap.size = w.heap.size + 4) := Lib.hid szA
 have HZI1 := i35a (cs := preD 0 0 0 0 ++ errTxn 0 0) rfl
 have HZI2 := i42a (cs := preR 0 0 0 ++ zResL) rfl
 have HZO1 := Lib.hid (preD_one 0 0 0 0 (errTxn 0 0) (errTxn_one 0 0))
 have HZO2 := Lib.hid (preR_one 0 0 0 zResL zResL_one)
 unfold MadePost
 obtain ⟨E1, he1⟩ : ∃ e, right13 f subs z = e := ⟨_, rfl⟩
 obtain ⟨E2, he2⟩ : ∃ e, right12 g rsubs = e := ⟨_, rfl⟩
 rw [he1, he2]
 have HK1 : RowKit.Hid (((ZP310 w tc rc).alloc (.cells (preD s x z ti ++ tc).toArray 35)).heap.size = w.heap.size + 5) := Lib.hid (by simp)
 have HID := i35 (cs := (preD s x z ti ++ tc)) (dl20 lt16)
 have HIDA := i35a (cs := (preD s x z ti ++ tc)) (dl20 lt16)
 have HOD := Lib.hid (preD_one s x z ti tc (TxnR.one hT))
 have HZD : RowKit.Hid ((ZP311 : Array Value).size = (preD s x z ti ++ tc).toArray.size) := Lib.hid (zd20 lt16)
 have HIR := i42 (cs := (preR x z 0 ++ rc)) (rl25 lt22)
 have HIRA := i42a (cs := (preR x z 0 ++ rc)) (rl25 lt22)
 have HOR := Lib.hid (preR_one x z 0 rc (ResR.one hR))
 have HZR : RowKit.Hid ((ZP312 : Array Value).size = (preR x z 0 ++ rc).toArray.size) := Lib.hid (zr25 lt22)
 have bw2' : Below w.heap.size w (((ZP310 w tc rc).alloc (.cells (preD s x z ti ++ tc).toArray 35)).alloc (.cells (preR x z 0 ++ rc).toArray 42)) := (bA.alloc bA.size (.cells (preD s x z ti ++ tc).toArray 35)).alloc (by simp <;> omega) _
 have r11b : ((ZP310 w tc rc).alloc (.cells (preD s x z ti ++ tc).toArray 35)).rangeAt (w.heap.size + 1) 0 rc := range_below r11 ((Below.refl (ZP310 w tc rc).heap.size (ZP310 w tc rc)).alloc (Nat.le_refl _) _) (by simp)
 have hz2c : (((ZP310 w tc rc).alloc (.cells (preD s x z ti ++ tc).toArray 35)).alloc (.cells (preR x z 0 ++ rc).toArray 42)).heap[w.heap.size + 2]? = _ := (Below.heap_alloc ((ZP310 w tc rc).alloc (.cells (preD s x z ti ++ tc).toArray 35)) _ _ (by simp <;> omega)).trans ((Below.heap_alloc (ZP310 w tc rc) _ _ (by simp)).trans hz2)
 have hz3c : (((ZP310 w tc rc).alloc (.cells (preD s x z ti ++ tc).toArray 35)).alloc (.cells (preR x z 0 ++ rc).toArray 42)).heap[w.heap.size + 3]? = _ := (Below.heap_alloc ((ZP310 w tc rc).alloc (.cells (preD s x z ti ++ tc).toArray 35)) _ _ (by simp <;> omega)).trans ((Below.heap_alloc (ZP310 w tc rc) _ _ (by simp)).trans hz3)
 have hd3 : (((ZP310 w tc rc).alloc (.cells (preD s x z ti ++ tc).toArray 35)).alloc (.cells (preR x z 0 ++ rc).toArray 42)).heap[w.heap.size + 4]? = some (.cells (preD s x z ti ++ tc).toArray 35 (0, 0)) := by
  rw [Below.heap_alloc ((ZP310 w tc rc).alloc (.cells (preD s x z ti ++ tc).toArray 35)) _ _ (by simp)]
  have := heap_alloc_new (ZP310 w tc rc) (.cells (preD s x z ti ++ tc).toArray 35)
  rwa [szA] at this
 have hr3 : (((ZP310 w tc rc).alloc (.cells (preD s x z ti ++ tc).toArray 35)).alloc (.cells (preR x z 0 ++ rc).toArray 42)).heap[w.heap.size + 5]? = some (.cells (preR x z 0 ++ rc).toArray 42 (0, 0)) := by
  have := heap_alloc_new ((ZP310 w tc rc).alloc (.cells (preD s x z ti ++ tc).toArray 35)) (.cells (preR x z 0 ++ rc).toArray 42)
  rwa [show ((ZP310 w tc rc).alloc (.cells (preD s x z ti ++ tc).toArray 35)).heap.size = w.heap.size + 5 by simp] at this
 have rD : (((ZP310 w tc rc).alloc (.cells (preD s x z ti ++ tc).toArray 35)).alloc (.cells (preR x z 0 ++ rc).toArray 42)).rangeAt (w.heap.size + 4) 0 (preD s x z ti ++ tc) := (by (have := st_range hd3; rwa [List.toList_toArray] at this))
 have hT3 : TxnR A (((ZP310 w tc rc).alloc (.cells (preD s x z ti ++ tc).toArray 35)).alloc (.cells (preR x z 0 ++ rc).toArray 42)) (.mk f subs) tc := TxnR.kept (fun b hb => bw2'.block b (hA b hb)) hT
 have hR3 : ResR B (((ZP310 w tc rc).alloc (.cells (preD s x z ti ++ tc).toArray 35)).alloc (.cells (preR x z 0 ++ rc).toArray 42)) (.mk g rsubs) rc := ResR.kept (fun b hb => bw2'.block b (hB b hb)) hR
 have hRi1' := refright_any f subs A (preD s x z ti) tc (preD s x z ti ++ tc) z rfl rfl rfl (((ZP310 w tc rc).alloc (.cells (preD s x z ti ++ tc).toArray 35)).alloc (.cells (preR x z 0 ++ rc).toArray 42)) okT hT3 (fun b hb => Nat.lt_of_lt_of_le (hA b hb) bw2'.size)
 have hRi2 := fun (W : World) (hb : Below w.heap.size w W) (A' : Nat → Prop) (cs : List Value) (hR : ResR A' W (.mk g rsubs) cs) (hA : ∀ b, A' b → b < W.heap.size) => refright12_any g rsubs A' (preR x z 0) cs (preR x z 0 ++ cs) rfl rfl rfl W okR hR hA
 rw [he1] at hRi1'
 rw [he2] at hRi2
 clear he1 he2 lt16 lt22 hT hR hz2 hz3
 by_cases h1 : E1 = 0
 case neg =>
  have h1a : (E1 == 0) = false := by simpa using h1
  have h1b : (E1 != 0) = true := by simpa using h1
  simp only [if_neg (show ¬ (E1 = 0 ∧ E2 = 0) from fun h => h1 h.1), if_neg h1]
  go_enter Tryz.func7, Tryz.ntmps7
  go_wp2_with (first
   | (with_reducible refine wpList_load_mid rfl 33 (.tmp 10) rfl w.heap.size 0 rfl tc _ r10 Tryz.underlying33 rfl HI33.out ?_)
   | (refine wpList_build_to rfl 35 _ rfl (preD s x z ti ++ tc).toArray (by exact HBU1.out) ?_)
   | (with_reducible refine wpList_store_newk rfl 35 (.tmp 15) (.tmp 23) rfl (w.heap.size + 4) ZP311 (preD s x z ti ++ tc).toArray HK0.out rfl rfl HIDA.out HZD.out HOD.out ?_)
   | (with_reducible refine wpList_load_mid rfl 40 (.tmp 11) rfl (w.heap.size + 1) 0 rfl rc _ r11b Tryz.underlying40 rfl HI40.out ?_)
   | (refine wpList_build_to rfl 42 _ rfl (preR x z 0 ++ rc).toArray (by exact HBU2.out) ?_)
   | (with_reducible refine wpList_store_newk rfl 42 (.tmp 16) (.tmp 27) rfl (w.heap.size + 5) ZP312 (preR x z 0 ++ rc).toArray HK1.out rfl rfl HIRA.out HZR.out HOR.out ?_)
   | (with_reducible refine wpList_load_mid rfl 35 (.tmp 15) rfl (w.heap.size + 4) 0 rfl (preD s x z ti ++ tc) _ rD Tryz.underlying35 rfl HID.out ?_)
   | (go_at_call 19; with_reducible refine hRi1'.mono ?_; rintro e w3 ⟨rfl, hb3⟩; have bw3 : Below w.heap.size w w3 := bw2'.trans (hb3.mono bw2'.size); have hz2d := (hb3.block (w.heap.size + 2) (by simp <;> omega)).trans hz2c; have hz3d := (hb3.block (w.heap.size + 3) (by simp <;> omega)).trans hz3c; have hd4 := (hb3.block (w.heap.size + 4) (by simp <;> omega)).trans hd3; have hr4 := (hb3.block (w.heap.size + 5) (by simp)).trans hr3; have rR : w3.rangeAt (w.heap.size + 5) 0 (preR x z 0 ++ rc) := (by (have := st_range hr4; rwa [List.toList_toArray] at this)); have hT4 := TxnR.kept (fun b hb => hb3.block b (Nat.lt_of_lt_of_le (hA b hb) bw2'.size)) hT3; have hR4 := ResR.kept (fun b hb => hb3.block b (Nat.lt_of_lt_of_le (hB b hb) bw2'.size)) hR3; have hRi2' := hRi2 _ bw3 _ _ hR4 (fun b hb => Nat.lt_of_lt_of_le (Nat.lt_of_lt_of_le (hB b hb) bw2'.size) hb3.size); have sz3 := hb3.size; clear hRi1' hz2c hz3c hd3 hr3 hb3 hT3 hR3; dsimp only)
   | (with_reducible refine wpList_load_mid rfl 42 (.tmp 16) rfl (w.heap.size + 5) 0 rfl (preR x z 0 ++ rc) _ rR Tryz.underlying42 rfl HIR.out ?_)
   | (go_at_call 20; with_reducible refine hRi2'.mono ?_; rintro e w4 ⟨rfl, hb4⟩; have bw4 : Below w.heap.size w w4 := bw3.trans (hb4.mono bw3.size); have hz2e := (hb4.block (w.heap.size + 2) (by (have := sz3; simp at this; omega))).trans hz2d; have hz3e := (hb4.block (w.heap.size + 3) (by (have := sz3; simp at this; omega))).trans hz3d; have hd5 := (hb4.block (w.heap.size + 4) (by (have := sz3; simp at this; omega))).trans hd4; have hr5 := (hb4.block (w.heap.size + 5) (by (have := sz3; simp at this; omega))).trans hr4; have hT5 := TxnR.kept (fun b hb => hb4.block b (Nat.lt_of_lt_of_le (Nat.lt_of_lt_of_le (hA b hb) bw2'.size) sz3)) hT4; have hR5 := ResR.kept (fun b hb => hb4.block b (Nat.lt_of_lt_of_le (Nat.lt_of_lt_of_le (hB b hb) bw2'.size) sz3)) hR4; have sz4 := hb4.size; clear hRi2' hz2d hz3d hd4 hr4 hb4 hT4 hR4; dsimp only)
   | (refine wpList_build_to rfl 35 _ rfl (preD 0 0 0 0 ++ errTxn 0 0).toArray (by exact built35z) ?_)
   | (refine wpList_build_to rfl 42 _ rfl (preR 0 0 0 ++ zResL).toArray (by exact built42z) ?_)
   | (with_reducible refine wpList_store_row rfl 35 (.tmp 12) (.tmp 36) rfl (w.heap.size + 2) (preD 0 0 0 0 ++ errTxn 0 0).toArray rfl rfl 35 _ hz2d HZI1.out rfl HZO1.out ?_; have q1 := setRow_heap w3 (w.heap.size + 2) _ (preD 0 0 0 0 ++ errTxn 0 0).toArray 35 (0, 0) hz2d; have q2 : (w3.setRow (w.heap.size + 2) (preD 0 0 0 0 ++ errTxn 0 0).toArray).heap[w.heap.size + 3]? = _ := (setRow_apart w3 (w.heap.size + 2) (w.heap.size + 3) (preD 0 0 0 0 ++ errTxn 0 0).toArray (by omega)).trans hz3d; have q3 : ((w3.setRow (w.heap.size + 2) (preD 0 0 0 0 ++ errTxn 0 0).toArray).setRow (w.heap.size + 3) (preR 0 0 0 ++ zResL).toArray).heap[w.heap.size + 2]? = _ := (setRow_apart (w3.setRow (w.heap.size + 2) (preD 0 0 0 0 ++ errTxn 0 0).toArray) (w.heap.size + 3) (w.heap.size + 2) (preR 0 0 0 ++ zResL).toArray (by omega)).trans q1; have q4 := setRow_heap (w3.setRow (w.heap.size + 2) (preD 0 0 0 0 ++ errTxn 0 0).toArray) (w.heap.size + 3) _ (preR 0 0 0 ++ zResL).toArray 42 (0, 0) q2; have q5 := below_setRow (below_setRow bw3 (g := w.heap.size + 2) (by omega) (preD 0 0 0 0 ++ errTxn 0 0).toArray) (g := w.heap.size + 3) (by omega) (preR 0 0 0 ++ zResL).toArray)
   | (with_reducible refine wpList_store_row rfl 42 (.tmp 13) (.tmp 37) rfl (w.heap.size + 3) (preR 0 0 0 ++ zResL).toArray rfl rfl 42 _ q2 HZI2.out rfl HZO2.out ?_)
   | fail)
  refine bodyPost_ret (results_three rfl _ _ (w.heap.size + 2) (w.heap.size + 3) 35 42 _ _ (0, 0) (0, 0) _ _ (.int .i64 E1) rfl q3 Tryz.underlying35 rfl HZI1.out rfl q4 Tryz.underlying42 rfl HZI2.out rfl) rfl ?_
  exact ⟨fun _ => False, _, _, rfl, errTxn_r _ _ 0 0, zRes_r _ _, fun _ h => h.elim, q5⟩
 subst h1
 by_cases h2 : E2 = 0
 case neg =>
  have h2b : (E2 != 0) = true := by simpa using h2
  simp only [true_and, if_neg h2, if_true]
  go_enter Tryz.func7, Tryz.ntmps7
  go_wp2_with (first
   | (with_reducible refine wpList_load_mid rfl 33 (.tmp 10) rfl w.heap.size 0 rfl tc _ r10 Tryz.underlying33 rfl HI33.out ?_)
   | (refine wpList_build_to rfl 35 _ rfl (preD s x z ti ++ tc).toArray (by exact HBU1.out) ?_)
   | (with_reducible refine wpList_store_newk rfl 35 (.tmp 15) (.tmp 23) rfl (w.heap.size + 4) ZP311 (preD s x z ti ++ tc).toArray HK0.out rfl rfl HIDA.out HZD.out HOD.out ?_)
   | (with_reducible refine wpList_load_mid rfl 40 (.tmp 11) rfl (w.heap.size + 1) 0 rfl rc _ r11b Tryz.underlying40 rfl HI40.out ?_)
   | (refine wpList_build_to rfl 42 _ rfl (preR x z 0 ++ rc).toArray (by exact HBU2.out) ?_)
   | (with_reducible refine wpList_store_newk rfl 42 (.tmp 16) (.tmp 27) rfl (w.heap.size + 5) ZP312 (preR x z 0 ++ rc).toArray HK1.out rfl rfl HIRA.out HZR.out HOR.out ?_)
   | (with_reducible refine wpList_load_mid rfl 35 (.tmp 15) rfl (w.heap.size + 4) 0 rfl (preD s x z ti ++ tc) _ rD Tryz.underlying35 rfl HID.out ?_)
   | (go_at_call 19; with_reducible refine hRi1'.mono ?_; rintro e w3 ⟨rfl, hb3⟩; have bw3 : Below w.heap.size w w3 := bw2'.trans (hb3.mono bw2'.size); have hz2d := (hb3.block (w.heap.size + 2) (by simp <;> omega)).trans hz2c; have hz3d := (hb3.block (w.heap.size + 3) (by simp <;> omega)).trans hz3c; have hd4 := (hb3.block (w.heap.size + 4) (by simp <;> omega)).trans hd3; have hr4 := (hb3.block (w.heap.size + 5) (by simp)).trans hr3; have rR : w3.rangeAt (w.heap.size + 5) 0 (preR x z 0 ++ rc) := (by (have := st_range hr4; rwa [List.toList_toArray] at this)); have hT4 := TxnR.kept (fun b hb => hb3.block b (Nat.lt_of_lt_of_le (hA b hb) bw2'.size)) hT3; have hR4 := ResR.kept (fun b hb => hb3.block b (Nat.lt_of_lt_of_le (hB b hb) bw2'.size)) hR3; have hRi2' := hRi2 _ bw3 _ _ hR4 (fun b hb => Nat.lt_of_lt_of_le (Nat.lt_of_lt_of_le (hB b hb) bw2'.size) hb3.size); have sz3 := hb3.size; clear hRi1' hz2c hz3c hd3 hr3 hb3 hT3 hR3; dsimp only)
   | (with_reducible refine wpList_load_mid rfl 42 (.tmp 16) rfl (w.heap.size + 5) 0 rfl (preR x z 0 ++ rc) _ rR Tryz.underlying42 rfl HIR.out ?_)
   | (go_at_call 20; with_reducible refine hRi2'.mono ?_; rintro e w4 ⟨rfl, hb4⟩; have bw4 : Below w.heap.size w w4 := bw3.trans (hb4.mono bw3.size); have hz2e := (hb4.block (w.heap.size + 2) (by (have := sz3; simp at this; omega))).trans hz2d; have hz3e := (hb4.block (w.heap.size + 3) (by (have := sz3; simp at this; omega))).trans hz3d; have hd5 := (hb4.block (w.heap.size + 4) (by (have := sz3; simp at this; omega))).trans hd4; have hr5 := (hb4.block (w.heap.size + 5) (by (have := sz3; simp at this; omega))).trans hr4; have hT5 := TxnR.kept (fun b hb => hb4.block b (Nat.lt_of_lt_of_le (Nat.lt_of_lt_of_le (hA b hb) bw2'.size) sz3)) hT4; have hR5 := ResR.kept (fun b hb => hb4.block b (Nat.lt_of_lt_of_le (Nat.lt_of_lt_of_le (hB b hb) bw2'.size) sz3)) hR4; have sz4 := hb4.size; clear hRi2' hz2d hz3d hd4 hr4 hb4 hT4 hR4; dsimp only)
   | (refine wpList_build_to rfl 35 _ rfl (preD 0 0 0 0 ++ errTxn 0 0).toArray (by exact built35z) ?_)
   | (refine wpList_build_to rfl 42 _ rfl (preR 0 0 0 ++ zResL).toArray (by exact built42z) ?_)
   | (with_reducible refine wpList_store_row rfl 35 (.tmp 12) (.tmp 36) rfl (w.heap.size + 2) (preD 0 0 0 0 ++ errTxn 0 0).toArray rfl rfl 35 _ hz2e HZI1.out rfl HZO1.out ?_; have q1 := setRow_heap w4 (w.heap.size + 2) _ (preD 0 0 0 0 ++ errTxn 0 0).toArray 35 (0, 0) hz2e; have q2 : (w4.setRow (w.heap.size + 2) (preD 0 0 0 0 ++ errTxn 0 0).toArray).heap[w.heap.size + 3]? = _ := (setRow_apart w4 (w.heap.size + 2) (w.heap.size + 3) (preD 0 0 0 0 ++ errTxn 0 0).toArray (by omega)).trans hz3e; have q3 : ((w4.setRow (w.heap.size + 2) (preD 0 0 0 0 ++ errTxn 0 0).toArray).setRow (w.heap.size + 3) (preR 0 0 0 ++ zResL).toArray).heap[w.heap.size + 2]? = _ := (setRow_apart (w4.setRow (w.heap.size + 2) (preD 0 0 0 0 ++ errTxn 0 0).toArray) (w.heap.size + 3) (w.heap.size + 2) (preR 0 0 0 ++ zResL).toArray (by omega)).trans q1; have q4 := setRow_heap (w4.setRow (w.heap.size + 2) (preD 0 0 0 0 ++ errTxn 0 0).toArray) (w.heap.size + 3) _ (preR 0 0 0 ++ zResL).toArray 42 (0, 0) q2; have q5 := below_setRow (below_setRow bw4 (g := w.heap.size + 2) (by omega) (preD 0 0 0 0 ++ errTxn 0 0).toArray) (g := w.heap.size + 3) (by omega) (preR 0 0 0 ++ zResL).toArray)
   | (with_reducible refine wpList_store_row rfl 42 (.tmp 13) (.tmp 37) rfl (w.heap.size + 3) (preR 0 0 0 ++ zResL).toArray rfl rfl 42 _ q2 HZI2.out rfl HZO2.out ?_)
   | fail)
  refine bodyPost_ret (results_three rfl _ _ (w.heap.size + 2) (w.heap.size + 3) 35 42 _ _ (0, 0) (0, 0) _ _ (.int .i64 E2) rfl q3 Tryz.underlying35 rfl HZI1.out rfl q4 Tryz.underlying42 rfl HZI2.out rfl) rfl ?_
  exact ⟨fun _ => False, _, _, rfl, errTxn_r _ _ 0 0, zRes_r _ _, fun _ h => h.elim, q5⟩
 subst h2
 simp only [and_self, if_true]
 case pos =>
  go_enter Tryz.func7, Tryz.ntmps7
  go_wp2_with (first
   | (with_reducible refine wpList_load_mid rfl 33 (.tmp 10) rfl w.heap.size 0 rfl tc _ r10 Tryz.underlying33 rfl HI33.out ?_)
   | (refine wpList_build_to rfl 35 _ rfl (preD s x z ti ++ tc).toArray (by exact HBU1.out) ?_)
   | (with_reducible refine wpList_store_newk rfl 35 (.tmp 15) (.tmp 23) rfl (w.heap.size + 4) ZP311 (preD s x z ti ++ tc).toArray HK0.out rfl rfl HIDA.out HZD.out HOD.out ?_)
   | (with_reducible refine wpList_load_mid rfl 40 (.tmp 11) rfl (w.heap.size + 1) 0 rfl rc _ r11b Tryz.underlying40 rfl HI40.out ?_)
   | (refine wpList_build_to rfl 42 _ rfl (preR x z 0 ++ rc).toArray (by exact HBU2.out) ?_)
   | (with_reducible refine wpList_store_newk rfl 42 (.tmp 16) (.tmp 27) rfl (w.heap.size + 5) ZP312 (preR x z 0 ++ rc).toArray HK1.out rfl rfl HIRA.out HZR.out HOR.out ?_)
   | (with_reducible refine wpList_load_mid rfl 35 (.tmp 15) rfl (w.heap.size + 4) 0 rfl (preD s x z ti ++ tc) _ rD Tryz.underlying35 rfl HID.out ?_)
   | (go_at_call 19; with_reducible refine hRi1'.mono ?_; rintro e w3 ⟨rfl, hb3⟩; have bw3 : Below w.heap.size w w3 := bw2'.trans (hb3.mono bw2'.size); have hz2d := (hb3.block (w.heap.size + 2) (by simp <;> omega)).trans hz2c; have hz3d := (hb3.block (w.heap.size + 3) (by simp <;> omega)).trans hz3c; have hd4 := (hb3.block (w.heap.size + 4) (by simp <;> omega)).trans hd3; have hr4 := (hb3.block (w.heap.size + 5) (by simp)).trans hr3; have rR : w3.rangeAt (w.heap.size + 5) 0 (preR x z 0 ++ rc) := (by (have := st_range hr4; rwa [List.toList_toArray] at this)); have hT4 := TxnR.kept (fun b hb => hb3.block b (Nat.lt_of_lt_of_le (hA b hb) bw2'.size)) hT3; have hR4 := ResR.kept (fun b hb => hb3.block b (Nat.lt_of_lt_of_le (hB b hb) bw2'.size)) hR3; have hRi2' := hRi2 _ bw3 _ _ hR4 (fun b hb => Nat.lt_of_lt_of_le (Nat.lt_of_lt_of_le (hB b hb) bw2'.size) hb3.size); have sz3 := hb3.size; clear hRi1' hz2c hz3c hd3 hr3 hb3 hT3 hR3; dsimp only)
   | (with_reducible refine wpList_load_mid rfl 42 (.tmp 16) rfl (w.heap.size + 5) 0 rfl (preR x z 0 ++ rc) _ rR Tryz.underlying42 rfl HIR.out ?_)
   | (go_at_call 20; with_reducible refine hRi2'.mono ?_; rintro e w4 ⟨rfl, hb4⟩; have bw4 : Below w.heap.size w w4 := bw3.trans (hb4.mono bw3.size); have hz2e := (hb4.block (w.heap.size + 2) (by (have := sz3; simp at this; omega))).trans hz2d; have hz3e := (hb4.block (w.heap.size + 3) (by (have := sz3; simp at this; omega))).trans hz3d; have hd5 := (hb4.block (w.heap.size + 4) (by (have := sz3; simp at this; omega))).trans hd4; have hr5 := (hb4.block (w.heap.size + 5) (by (have := sz3; simp at this; omega))).trans hr4; have hT5 := TxnR.kept (fun b hb => hb4.block b (Nat.lt_of_lt_of_le (Nat.lt_of_lt_of_le (hA b hb) bw2'.size) sz3)) hT4; have hR5 := ResR.kept (fun b hb => hb4.block b (Nat.lt_of_lt_of_le (Nat.lt_of_lt_of_le (hB b hb) bw2'.size) sz3)) hR4; have sz4 := hb4.size; clear hRi2' hz2d hz3d hd4 hr4 hb4 hT4 hR4; dsimp only)
   | fail)
  have hSS : w4.heap[(w.heap.size + 4)]? = some (.cells (preD s x z ti ++ tc).toArray 35 (0, 0)) ∧ w4.heap[(w.heap.size + 5)]? = some (.cells (preR x z 0 ++ rc).toArray 42 (0, 0)) := ⟨hd5, hr5⟩
  refine wp_region_held_lit (S := (fun W => W.heap[(w.heap.size + 4)]? = some (.cells (preD s x z ti ++ tc).toArray 35 (0, 0)) ∧ W.heap[(w.heap.size + 5)]? = some (.cells (preR x z 0 ++ rc).toArray 42 (0, 0)))) 5 #[false, false, false, false, false] rfl rfl (by kernel_rfl) hSS (fun hHeld => ?_)
  refine wpAnyH_take (i := 0) (oi := { dst := some 39, op := Op.load 35 (Operand.tmp 15), type := 35, pos := "ref.go:33", after := #[], guard := none }) (v := .agg (preD s x z ti ++ tc).toArray) rfl (by kernel_rfl) (by kernel_rfl) (by kernel_rfl) (fun _ _ _ h => h) (yieldsIf_load_mid (by rfl) 35 (.tmp 15) rfl (w.heap.size + 4) 0 rfl (preD s x z ti ++ tc) _ (fun wz hSw => by have := st_range hSw.1; rwa [List.toList_toArray] at this) Tryz.underlying35 rfl HID.out) hHeld ?_
  simp only [Act.put, List.setIfInBounds_toArray, List.set]
  refine wpAnyH_take (i := 1) (oi := { dst := some 40, op := Op.load 42 (Operand.tmp 16), type := 42, pos := "ref.go:33", after := #[{ on := 2, ground := Ground.gcOnly Departure.lateStores }], guard := none }) (v := .agg (preR x z 0 ++ rc).toArray) rfl (by kernel_rfl) (by kernel_rfl) (by kernel_rfl) (fun _ _ _ h => h) (yieldsIf_load_mid (by rfl) 42 (.tmp 16) rfl (w.heap.size + 5) 0 rfl (preR x z 0 ++ rc) _ (fun wz hSw => by have := st_range hSw.2; rwa [List.toList_toArray] at this) Tryz.underlying42 rfl HIR.out) hHeld ?_
  simp only [Act.put, List.setIfInBounds_toArray, List.set]
  refine wpAnyH_ready (rs := [2]) (by kernel_rfl) (by simp) ?_
  refine AllReadyH.cons (o := { dst := none, op := Op.store 35 (Operand.tmp 12) (Operand.tmp 39), type := 0, pos := "ref.go:33", after := #[{ on := 0, ground := Ground.data }, { on := 0, ground := Ground.phase }, { on := 1, ground := Ground.textOnly Departure.lateStores }], guard := none }) rfl (fun K hK => ?_) AllReadyH.nil
  refine step_store_row rfl 35 (.tmp 12) (.tmp 39) rfl (w.heap.size + 2) (preD s x z ti ++ tc).toArray (by rfl) (by rfl) 35 _ hz2e HIDA.out HZD.out HOD.out ?_
  have q1 := setRow_heap w4.drew (w.heap.size + 2) _ (preD s x z ti ++ tc).toArray 35 (0, 0) hz2e
  have q2 : (w4.drew.setRow (w.heap.size + 2) (preD s x z ti ++ tc).toArray).heap[w.heap.size + 3]? = some (.cells ZP312 42 (0, 0)) := (setRow_apart w4.drew (w.heap.size + 2) (w.heap.size + 3) (preD s x z ti ++ tc).toArray (by omega)).trans hz3e
  have q3 : ((w4.drew.setRow (w.heap.size + 2) (preD s x z ti ++ tc).toArray).setRow (w.heap.size + 3) (preR x z 0 ++ rc).toArray).heap[w.heap.size + 2]? = some (.cells (preD s x z ti ++ tc).toArray 35 (0, 0)) := (setRow_apart (w4.drew.setRow (w.heap.size + 2) (preD s x z ti ++ tc).toArray) (w.heap.size + 3) (w.heap.size + 2) (preR x z 0 ++ rc).toArray (by omega)).trans q1
  have q4 := setRow_heap (w4.drew.setRow (w.heap.size + 2) (preD s x z ti ++ tc).toArray) (w.heap.size + 3) _ (preR x z 0 ++ rc).toArray 42 (0, 0) q2
  have q5 := below_setRow (below_setRow bw4.drew (g := w.heap.size + 2) (by omega) (preD s x z ti ++ tc).toArray) (g := w.heap.size + 3) (by omega) (preR x z 0 ++ rc).toArray
  have hS2 : (w4.drew.setRow (w.heap.size + 2) (preD s x z ti ++ tc).toArray).heap[(w.heap.size + 4)]? = some (.cells (preD s x z ti ++ tc).toArray 35 (0, 0)) ∧ (w4.drew.setRow (w.heap.size + 2) (preD s x z ti ++ tc).toArray).heap[(w.heap.size + 5)]? = some (.cells (preR x z 0 ++ rc).toArray 42 (0, 0)) := ⟨(setRow_apart w4.drew _ _ (preD s x z ti ++ tc).toArray (by omega)).trans hSS.1, (setRow_apart w4.drew _ _ (preD s x z ti ++ tc).toArray (by omega)).trans hSS.2⟩
  have hS3 : ((w4.drew.setRow (w.heap.size + 2) (preD s x z ti ++ tc).toArray).setRow (w.heap.size + 3) (preR x z 0 ++ rc).toArray).heap[(w.heap.size + 4)]? = some (.cells (preD s x z ti ++ tc).toArray 35 (0, 0)) ∧ ((w4.drew.setRow (w.heap.size + 2) (preD s x z ti ++ tc).toArray).setRow (w.heap.size + 3) (preR x z 0 ++ rc).toArray).heap[(w.heap.size + 5)]? = some (.cells (preR x z 0 ++ rc).toArray 42 (0, 0)) := ⟨(setRow_apart (w4.drew.setRow (w.heap.size + 2) (preD s x z ti ++ tc).toArray) _ _ (preR x z 0 ++ rc).toArray (by omega)).trans hS2.1, (setRow_apart (w4.drew.setRow (w.heap.size + 2) (preD s x z ti ++ tc).toArray) _ _ (preR x z 0 ++ rc).toArray (by omega)).trans hS2.2⟩
  clear hHeld
  refine hK.out _ _ hS2 (fun hHeld => ?_)
  clear hK K
  simp only [Act.put, List.setIfInBounds_toArray, List.set]
  refine wpAnyH_ready (rs := [3]) (by kernel_rfl) (by simp) ?_
  refine AllReadyH.cons (o := { dst := none, op := Op.store 42 (Operand.tmp 13) (Operand.tmp 40), type := 0, pos := "ref.go:33", after := #[{ on := 1, ground := Ground.data }, { on := 2, ground := Ground.chain }, { on := 0, ground := Ground.phase }, { on := 1, ground := Ground.phase }, { on := 2, ground := Ground.phase }], guard := none }) rfl (fun K hK => ?_) AllReadyH.nil
  refine step_store_row rfl 42 (.tmp 13) (.tmp 40) rfl (w.heap.size + 3) (preR x z 0 ++ rc).toArray (by rfl) (by rfl) 42 _ q2 HIRA.out HZR.out HOR.out ?_
  clear hHeld
  refine hK.out _ _ hS3 (fun hHeld => ?_)
  clear hK K
  simp only [Act.put, List.setIfInBounds_toArray, List.set]
  refine wpAnyH_take (i := 4) (oi := { dst := some 14, op := Op.assign (Operand.const (Value.int IntKind.i64 0)), type := 3, pos := "ref.go:33", after := #[{ on := 3, ground := Ground.chain }, { on := 0, ground := Ground.phase }, { on := 1, ground := Ground.phase }, { on := 2, ground := Ground.phase }, { on := 3, ground := Ground.phase }], guard := none }) (v := .int .i64 0) rfl (by kernel_rfl) (by kernel_rfl) (by kernel_rfl) (fun _ _ _ h => h) (Or.inl ⟨by rfl, fun wz hSw => by go_simp⟩) hHeld ?_
  simp only [Act.put, List.setIfInBounds_toArray, List.set]
  refine wpAnyH_done (by kernel_rfl) ?_ _
  go_wp2
  refine bodyPost_ret (results_three rfl _ _ (w.heap.size + 2) (w.heap.size + 3) 35 42 _ _ (0, 0) (0, 0) _ _ (.int .i64 0) rfl q3 Tryz.underlying35 rfl HIDA.out rfl q4 Tryz.underlying42 rfl HIRA.out rfl) rfl ?_
  have key : ∀ b, (b ≠ w.heap.size + 2 ∧ b ≠ w.heap.size + 3) → ((w4.drew.setRow (w.heap.size + 2) (preD s x z ti ++ tc).toArray).setRow (w.heap.size + 3) (preR x z 0 ++ rc).toArray).heap[b]? = w4.heap[b]? := fun b hb => (setRow_apart (w4.drew.setRow (w.heap.size + 2) (preD s x z ti ++ tc).toArray) _ _ (preR x z 0 ++ rc).toArray hb.2).trans (setRow_apart w4.drew _ _ (preD s x z ti ++ tc).toArray hb.1)
  refine ⟨fun b => (b ≠ w.heap.size + 2 ∧ b ≠ w.heap.size + 3) ∧ b < w4.heap.size, _, _, rfl, ?_, ?_, ?_, q5⟩
  ·exact TxnR.kept (fun b (hb : (b ≠ w.heap.size + 2 ∧ b ≠ w.heap.size + 3) ∧ b < w4.heap.size) => key b hb.1) (TxnR.mono (fun b hb => ⟨⟨by have := hA b hb; omega, by have := hA b hb; omega⟩, by have := hA b hb; simp at sz3; omega⟩) hT5)
  ·exact ResR.kept (fun b (hb : (b ≠ w.heap.size + 2 ∧ b ≠ w.heap.size + 3) ∧ b < w4.heap.size) => key b hb.1) (ResR.mono (fun b hb => ⟨⟨by have := hB b hb; omega, by have := hB b hb; omega⟩, by have := hB b hb; simp at sz3; omega⟩) hR5)
  ·intro b hb
   have := hb.2
   simpa using this
end Go.Proofs.YtfgjiidbafdndaaGreatDoor
