/- Contracts: two answers with equal data are told to be the same. -/
import Derived.Test.YtfgjiidbafdndaaGreatDoorK20
import Derived.Test.YtfgjiidbafdndaaGreatDoorK21
namespace Go.Proofs.YtfgjiidbafdndaaGreatDoor
open Go.RowKit
set_option maxHeartbeats 8000000
set_option maxRecDepth 100000
abbrev ZP320 (x0 : World) (x1 x2 x3 x4 : List Value) : World := ((((x0.alloc (.cells x1.toArray 35)).alloc (.cells x2.toArray 42)).alloc (.cells x3.toArray 35)).alloc (.cells x4.toArray 42))
theorem same8_any (td : TxnD) (rd : ResD) (A B C D : Nat → Prop) (s x z ti qx qz qc e : Int) (cs rs ds ss L M L2 M2 : List Value) (w : World) (okT : TxnOk td) (okR : ResOk rd)
  (hL : L = preD s x z ti ++ cs) (hM : M = preR qx qz qc ++ rs) (hL2 : L2 = preD s x z ti ++ ds) (hM2 : M2 = preR qx qz qc ++ ss)
  (h1 : TxnR A w td cs) (h2 : ResR B w rd rs) (h3 : TxnR C w td ds) (h4 : ResR D w rd ss) (hA : ∀ b, A b → b < w.heap.size) (hB : ∀ b, B b → b < w.heap.size) (hC : ∀ b, C b → b < w.heap.size) (hD : ∀ b, D b → b < w.heap.size) :
  Calls Tryz.prog 8 #[.agg L.toArray, .agg M.toArray, .int .i64 e, .agg L2.toArray, .agg M2.toArray, .int .i64 e] w fun E W => E = .returned (.bool true) ∧ Below w.heap.size w W := by
 have bA : Below w.heap.size w (ZP320 w L M L2 M2) := ((((Below.refl w.heap.size w).alloc (Nat.le_refl _) (.cells L.toArray 35)).alloc (by simp) (.cells M.toArray 42)).alloc (by simp <;> omega) (.cells L2.toArray 35)).alloc (by simp <;> omega) _
 have g0 : (ZP320 w L M L2 M2).heap[w.heap.size]? = some (.cells L.toArray 35 (0, 0)) := by
  rw [Below.heap_alloc _ _ _ (by simp <;> omega), Below.heap_alloc _ _ _ (by simp <;> omega), Below.heap_alloc _ _ _ (by simp)]; exact heap_alloc_new w _
 have g1 : (ZP320 w L M L2 M2).heap[w.heap.size + 1]? = some (.cells M.toArray 42 (0, 0)) := by
  rw [Below.heap_alloc _ _ _ (by simp <;> omega), Below.heap_alloc _ _ _ (by simp)]; exact heap_alloc2_new w _ _
 have g2 : (ZP320 w L M L2 M2).heap[w.heap.size + 2]? = some (.cells L2.toArray 35 (0, 0)) := by
  rw [Below.heap_alloc _ _ _ (by simp)]
  have := heap_alloc_new ((w.alloc (.cells L.toArray 35)).alloc (.cells M.toArray 42)) (.cells L2.toArray 35)
  rwa [show ((w.alloc (.cells L.toArray 35)).alloc (.cells M.toArray 42)).heap.size = w.heap.size + 2 by simp] at this
 have g3 : (ZP320 w L M L2 M2).heap[w.heap.size + 3]? = some (.cells M2.toArray 42 (0, 0)) := by
  have := heap_alloc_new (((w.alloc (.cells L.toArray 35)).alloc (.cells M.toArray 42)).alloc (.cells L2.toArray 35)) (.cells M2.toArray 42)
  rwa [show (((w.alloc (.cells L.toArray 35)).alloc (.cells M.toArray 42)).alloc (.cells L2.toArray 35)).heap.size = w.heap.size + 3 by simp] at this
 have l1 : L.length = 20 := by rw [hL, List.length_append, h1.length]; rfl
 have l2 : M.length = 25 := by rw [hM, List.length_append, h2.length]; rfl
 have l3 : L2.length = 20 := by rw [hL2, List.length_append, h3.length]; rfl
 have l4 : M2.length = 25 := by rw [hM2, List.length_append, h4.length]; rfl
 have r0 : (ZP320 w L M L2 M2).rangeAt w.heap.size 0 L := by (have := st_range g0; rwa [List.toList_toArray] at this)
 have r1 : (ZP320 w L M L2 M2).rangeAt (w.heap.size + 1) 0 M := by (have := st_range g1; rwa [List.toList_toArray] at this)
 have r2 : (ZP320 w L M L2 M2).rangeAt (w.heap.size + 2) 0 L2 := by (have := st_range g2; rwa [List.toList_toArray] at this)
 have r3 : (ZP320 w L M L2 M2).rangeAt (w.heap.size + 3) 0 M2 := by (have := st_range g3; rwa [List.toList_toArray] at this)
 have szA : w.heap.size + 3 < (ZP320 w L M L2 M2).heap.size := by simp
 have hD1 := samedelta_any td A C s x z ti cs ds L L2 hL hL2 (ZP320 w L M L2 M2) okT (TxnR.kept (fun b hb => bA.block b (hA b hb)) h1) (TxnR.kept (fun b hb => bA.block b (hC b hb)) h3) (fun b hb => Nat.lt_of_lt_of_le (hA b hb) bA.size) (fun b hb => Nat.lt_of_lt_of_le (hC b hb) bA.size)
 have hR1 := fun (W : World) (hb : Below w.heap.size w W) => samereply_any rd B D qx qz qc rs ss M M2 hM hM2 W okR (ResR.kept (fun b hb' => hb.block b (hB b hb')) h2) (ResR.kept (fun b hb' => hb.block b (hD b hb')) h4) (fun b hb' => Nat.lt_of_lt_of_le (hB b hb') hb.size) (fun b hb' => Nat.lt_of_lt_of_le (hD b hb') hb.size)
 have I1 := i35 l1
 have I2 := i42 l2
 have I3 := i35 l3
 have I4 := i42 l4
 have HBA := Lib.hid bA
 clear g0 g1 g2 g3 l1 l2 l3 l4 hL hM hL2 hM2 h1 h2 h3 h4 bA
 go_enter Tryz.func8, Tryz.ntmps8
 go_wp2_with (first
  | (with_reducible refine wpList_load_mid rfl 35 (.tmp 6) rfl w.heap.size 0 rfl L _ r0 Tryz.underlying35 rfl I1.out ?_)
  | (with_reducible refine wpList_load_mid rfl 35 (.tmp 9) rfl (w.heap.size + 2) 0 rfl L2 _ r2 Tryz.underlying35 rfl I3.out ?_)
  | (go_at_call 21; with_reducible refine hD1.mono ?_; rintro e' w1 ⟨rfl, hb1⟩; have bw1 := HBA.out.trans (hb1.mono HBA.out.size); have r1a := range_below r1 hb1 (by omega); have r3a := range_below r3 hb1 (by omega); have hR2 := hR1 w1 bw1; dsimp only)
  | (with_reducible refine wpList_load_guarded (by with_unfolding_all rfl) 42 (.tmp 7) rfl (w.heap.size + 1) 0 rfl M _ r1a Tryz.underlying42 rfl I2.out ?_)
  | (with_reducible refine wpList_load_guarded (by with_unfolding_all rfl) 42 (.tmp 10) rfl (w.heap.size + 3) 0 rfl M2 _ r3a Tryz.underlying42 rfl I4.out ?_)
  | (go_at_call 22; with_reducible refine hR2.mono ?_; rintro e' w2 ⟨rfl, hb2⟩; have bw2 := bw1.trans (hb2.mono bw1.size); dsimp only)
  | (go_at_call 23; with_reducible refine (no_any e _).mono ?_; rintro e' w' ⟨rfl, hW⟩; replace hW := hW.symm; subst hW; dsimp only)
  | fail)
 go_ret
 exact ⟨ret_bool (by simp), bw2⟩
theorem slr_empty {A B : Nat → Prop} {w w' : World} {sz : Nat} {v : Value} (h : SlR A w sz v []) : SlR B w' sz v [] := by
 obtain ⟨⟨a, n, c, h1, h2, h3, h4, h5, h6, h7⟩, h8⟩ := h
 have hn : n = 0 := h2.symm
 subst hn
 exact ⟨⟨a, 0, c, h1, rfl, h3, h4, h5, ⟨by simp, fun h => absurd h (by omega)⟩, fun h => absurd h (by omega)⟩, fun r hr => by cases hr⟩
theorem errTxn_any {A B : Nat → Prop} {w w' : World} {ty c : Int} {cs : List Value} (h : TxnR A w (.mk { zTxn with type := ty, code := c } []) cs) : TxnR B w' (.mk { zTxn with type := ty, code := c } []) cs := by
 rw [TxnR] at h ⊢
 obtain ⟨vd, va, vi, vp, vs, rows, h0, h1, h2, h3, h4, h5, h6⟩ := h
 rw [TxnsR] at h6
 subst h6
 exact ⟨vd, va, vi, vp, vs, [], h0, slr_empty h1, slr_empty h2, slr_empty h3, slr_empty h4, slr_empty h5, by rw [TxnsR]⟩
theorem zRes_any {A B : Nat → Prop} {w w' : World} {cs : List Value} (h : ResR A w (.mk zRes []) cs) : ResR B w' (.mk zRes []) cs := by
 rw [ResR] at h ⊢
 obtain ⟨vd, va, vi, vp, vs, rows, h0, h1, h2, h3, h4, h5, h6⟩ := h
 rw [RessR] at h6
 subst h6
 exact ⟨vd, va, vi, vp, vs, [], h0, slr_empty h1, slr_empty h2, slr_empty h3, slr_empty h4, slr_empty h5, by rw [RessR]⟩
theorem refused_any (s x z t c : Int) : ∃ (ps px pz pt qx qz qc e : Int) (td : TxnD) (rd : ResD), TxnOk td ∧ ResOk rd ∧
  (∀ (A B : Nat → Prop) (w w' : World) (cs : List Value), TxnR A w td cs → TxnR B w' td cs) ∧ (∀ (A B : Nat → Prop) (w w' : World) (cs : List Value), ResR A w rd cs → ResR B w' rd cs) ∧
  (∀ w : World, Calls Tryz.prog 12 #[.int .i64 s, .int .i32 x, .int .i64 z, .int .i64 t, .int .i32 c] w fun E W => OutPost w (preD ps px pz pt) td (preR qx qz qc) rd e E W) ∧
  (∀ w : World, Calls Tryz.prog 13 #[.int .i64 s, .int .i32 x, .int .i64 z, .int .i64 t, .int .i32 c] w fun E W => OutPost w (preD ps px pz pt) td (preR qx qz qc) rd e E W) := by
 by_cases h : z < 1 ∨ 0 ≤ c
 ·exact ⟨0, 0, 0, 0, 0, 0, 0, 1, _, _, zTxn_ok 0 0, zRes_ok, fun A B w w' cs h => errTxn_any h, fun A B w w' cs h => zRes_any h, fun w => prefused_bad s x z t c h w, fun w => rrefused_bad s x z t c h w⟩
 ·exact ⟨s, x, z, t, x, z, c, 0, _, _, zTxn_ok (-1) c, zRes_ok, fun A B w w' cs h => errTxn_any h, fun A B w w' cs h => zRes_any h, fun w => prefused_good s x z t c (fun h1 => h (.inl h1)) (fun h1 => h (.inr h1)) w, fun w => rrefused_good s x z t c (fun h1 => h (.inl h1)) (fun h1 => h (.inr h1)) w⟩
end Go.Proofs.YtfgjiidbafdndaaGreatDoor
