/- The law CompileMakes: its walk. -/
import Derived.Test.YtfgjiidbafdndaaGreatDoorK23
import Derived.Test.YtfgjiidbafdndaaGreatDoorK24
namespace Go.Proofs.YtfgjiidbafdndaaGreatDoor
open Go.RowKit
set_option maxHeartbeats 16000000
set_option maxRecDepth 100000
theorem made_out (s x z ti : Int) (f : TxnF) (subs : List TxnD) (g : ResF) (rsubs : List ResD) (okT : TxnOk (.mk f subs)) (okR : ResOk (.mk g rsubs)) : ∃ (ps px pz pt ux uz uc e : Int) (td : TxnD) (rd : ResD), TxnOk td ∧ ResOk rd ∧
  ∀ w E W, MadePost w s x z ti f subs g rsubs E W → OutPost w (preD ps px pz pt) td (preR ux uz uc) rd e E W := by
 unfold MadePost
 by_cases h : right13 f subs z = 0 ∧ right12 g rsubs = 0
 ·simp only [if_pos h]
  exact ⟨s, x, z, ti, x, z, 0, 0, _, _, okT, okR, fun w E W hP => hP⟩
 ·simp only [if_neg h]
  exact ⟨0, 0, 0, 0, 0, 0, 0, _, _, _, zTxn_ok 0 0, zRes_ok, fun w E W hP => hP⟩
theorem res_one {A : Nat → Prop} {w : World} {t : ResD} {cs : List Value} (h : ResR A w t cs) : cs.toArray.all (·.oneCell') = true := all_oneCell_toArray (ResR.one h)
abbrev ZP333 : Array Value := #[.int .i32 0, .int .i32 0, .string ⟨#[]⟩, .int .i64 0, .int .i64 0, .int .i64 0, .int .i64 0, .int .i32 0, .int .i32 0, .int .i32 0, .int .i64 0, .int .i32 0, .int .i32 0, .int .i64 0, .slice none 0 0, .slice none 0 0, .slice none 0 0, .int .i32 0, .int .i64 0, .int .i32 0, .slice none 0 0, .slice none 0 0]
theorem zs22 {cs : List Value} (h : cs.length = 22) : (ZP333 : Array Value).size = cs.toArray.size := by rw [show cs.toArray.size = 22 by rw [List.size_toArray, h]]; rfl
theorem i40a {cs : List Value} (h : cs.length = 22) : RowKit.Hid ((Tryz.prog.info? 40).map (·.size) = some cs.toArray.size) := Lib.hid (by rw [List.size_toArray, h]; kernel_rfl)
theorem i40 {cs : List Value} (h : cs.length = 22) : RowKit.Hid ((Tryz.prog.info? 40).map (·.size) = some cs.length) := Lib.hid (by rw [h]; kernel_rfl)
theorem i33 {cs : List Value} (h : cs.length = 16) : RowKit.Hid ((Tryz.prog.info? 33).map (·.size) = some cs.length) := Lib.hid (by rw [h]; kernel_rfl)
theorem row_range {w : World} {g T : Nat} {cs : List Value} (h : w.heap[g]? = some (.cells cs.toArray T (0, 0))) : w.rangeAt g 0 cs := by
 have := st_range h
 rwa [List.toList_toArray] at this
theorem row_rangeD {w : World} {g T : Nat} {s x z t : Int} {cs : List Value} (h : w.heap[g]? = some (.cells (preD s x z t ++ cs).toArray T (0, 0))) : w.rangeAt g 4 cs := range_right (xs := preD s x z t) (row_range h)
theorem row_rangeR {w : World} {g T : Nat} {x z c : Int} {cs : List Value} (h : w.heap[g]? = some (.cells (preR x z c ++ cs).toArray T (0, 0))) : w.rangeAt g 3 cs := range_right (xs := preR x z c) (row_range h)
theorem sz20 {s x z t s' x' z' t' : Int} {cs ds : List Value} (h : cs.length = 16) (k : ds.length = 16) : (preD s x z t ++ cs).toArray.size = (preD s' x' z' t' ++ ds).toArray.size := by rw [List.size_toArray, List.size_toArray, dl20 h, dl20 k]
theorem sz25 {x z c x' z' c' : Int} {cs ds : List Value} (h : cs.length = 22) (k : ds.length = 22) : (preR x z c ++ cs).toArray.size = (preR x' z' c' ++ ds).toArray.size := by rw [List.size_toArray, List.size_toArray, rl25 h, rl25 k]
theorem two_alloc {w : World} (o p : Obj) : w.heap.size + 2 = ((w.alloc o).alloc p).heap.size := by simp
theorem alloc2_old {w : World} (o p : Obj) {b : Nat} (h : b < w.heap.size) : ((w.alloc o).alloc p).heap[b]? = w.heap[b]? := by
 rw [Below.heap_alloc _ _ _ (by simp <;> omega), Below.heap_alloc _ _ _ h]
abbrev ZP330 (x0 : World) : World := ((x0.alloc (.cells #[.int .i64 0, .int .i32 0, .int .i64 0, .int .i64 0, .int .i32 0, .string ⟨#[]⟩, .slice none 0 0, .slice none 0 0, .int .i64 0, .int .i32 0, .int .i32 0, .bool false, .int .i64 0, .int .i64 0, .int .i64 0, .int .i32 0, .slice none 0 0, .slice none 0 0, .int .i32 0, .slice none 0 0] 35)).alloc (.cells #[.int .i32 0, .int .i64 0, .int .i32 0, .int .i32 0, .int .i32 0, .string ⟨#[]⟩, .int .i64 0, .int .i64 0, .int .i64 0, .int .i64 0, .int .i32 0, .int .i32 0, .int .i32 0, .int .i64 0, .int .i32 0, .int .i32 0, .int .i64 0, .slice none 0 0, .slice none 0 0, .slice none 0 0, .int .i32 0, .int .i64 0, .int .i32 0, .slice none 0 0, .slice none 0 0] 42))
abbrev ZP331 : Array Value := #[.int .i64 0, .int .i32 0, .int .i64 0, .int .i64 0, .int .i32 0, .string ⟨#[]⟩, .slice none 0 0, .slice none 0 0, .int .i64 0, .int .i32 0, .int .i32 0, .bool false, .int .i64 0, .int .i64 0, .int .i64 0, .int .i32 0, .slice none 0 0, .slice none 0 0, .int .i32 0, .slice none 0 0]
abbrev ZP332 : Array Value := #[.int .i32 0, .int .i64 0, .int .i32 0, .int .i32 0, .int .i32 0, .string ⟨#[]⟩, .int .i64 0, .int .i64 0, .int .i64 0, .int .i64 0, .int .i32 0, .int .i32 0, .int .i32 0, .int .i64 0, .int .i32 0, .int .i32 0, .int .i64 0, .slice none 0 0, .slice none 0 0, .slice none 0 0, .int .i32 0, .int .i64 0, .int .i32 0, .slice none 0 0, .slice none 0 0]
theorem two_rows (w : World) (X Y : Array Value) : ((((ZP330 w).setRow w.heap.size X).setRow (w.heap.size + 1) Y).heap[w.heap.size]? = some (.cells X 35 (0, 0)))
  ∧ ((((ZP330 w).setRow w.heap.size X).setRow (w.heap.size + 1) Y).heap[w.heap.size + 1]? = some (.cells Y 42 (0, 0)))
  ∧ (∀ b, b < w.heap.size → (((ZP330 w).setRow w.heap.size X).setRow (w.heap.size + 1) Y).heap[b]? = w.heap[b]?)
  ∧ ((((ZP330 w).setRow w.heap.size X).setRow (w.heap.size + 1) Y).heap.size = w.heap.size + 2)
  ∧ Below w.heap.size w (((ZP330 w).setRow w.heap.size X).setRow (w.heap.size + 1) Y) := by
 have z0 : (ZP330 w).heap[w.heap.size]? = some (.cells ZP331 35 (0, 0)) := by
  rw [Below.heap_alloc _ _ _ (by simp)]; exact heap_alloc_new w _
 have z1 : ((ZP330 w).setRow w.heap.size X).heap[w.heap.size + 1]? = some (.cells ZP332 42 (0, 0)) := by
  rw [setRow_apart _ _ _ _ (by omega)]; exact heap_alloc2_new w _ _
 refine ⟨?_, setRow_heap _ _ _ Y 42 (0, 0) z1, fun b hb => ?_, ?_, ?_⟩
 ·rw [setRow_apart _ _ _ _ (by omega)]; exact setRow_heap _ _ _ X 35 (0, 0) z0
 ·rw [setRow_apart _ _ _ _ (by omega), setRow_apart _ _ _ _ (by omega)]; exact alloc2_old _ _ hb
 ·simp [World.setRow]
 ·exact below_setRow (below_setRow (((Below.refl w.heap.size w).alloc (Nat.le_refl _) (.cells ZP331 35)).alloc (by simp) (.cells ZP332 42)) (g := w.heap.size) (Nat.le_refl _) X) (g := w.heap.size + 1) (by omega) Y
theorem two_set (w : World) (g : Nat) (X0 Y0 X Y : Array Value) (h0 : w.heap[g]? = some (.cells X0 35 (0, 0))) (h1 : w.heap[g + 1]? = some (.cells Y0 42 (0, 0))) : (((w.setRow g X).setRow (g + 1) Y).heap[g]? = some (.cells X 35 (0, 0)))
  ∧ (((w.setRow g X).setRow (g + 1) Y).heap[g + 1]? = some (.cells Y 42 (0, 0))) ∧ (∀ b, b ≠ g → b ≠ g + 1 → ((w.setRow g X).setRow (g + 1) Y).heap[b]? = w.heap[b]?)
  ∧ (((w.setRow g X).setRow (g + 1) Y).heap.size = w.heap.size) ∧ (∀ (B : Nat) (w0 : World), Below B w0 w → B ≤ g → Below B w0 ((w.setRow g X).setRow (g + 1) Y)) ∧ (w.setRow g X).heap[g + 1]? = some (.cells Y0 42 (0, 0)) := by
 have z1 : (w.setRow g X).heap[g + 1]? = some (.cells Y0 42 (0, 0)) := (setRow_apart _ _ _ _ (by omega)).trans h1
 refine ⟨?_, setRow_heap _ _ _ Y 42 (0, 0) z1, fun b hb hb' => ?_, ?_, fun B w0 hB hg => ?_, z1⟩
 ·rw [setRow_apart _ _ _ _ (by omega)]; exact setRow_heap _ _ _ X 35 (0, 0) h0
 ·rw [setRow_apart _ _ _ _ hb', setRow_apart _ _ _ _ hb]
 ·simp [World.setRow]
 ·exact below_setRow (below_setRow hB (g := g) hg X) (g := g + 1) (by omega) Y
theorem makes_any (f : TxnF) (subs : List TxnD) (g : ResF) (rsubs : List ResD) (A B : Nat → Prop) (s x z ti qx qz qc code : Int) (tc rc L M : List Value) (w : World) (hL : L = preD s x z ti ++ tc) (hM : M = preR qx qz qc ++ rc) (okT : TxnOk (.mk f subs)) (okR : ResOk (.mk g rsubs)) (hT : TxnR A w (.mk f subs) tc) (hR : ResR B w (.mk g rsubs) rc) (hA : ∀ b, A b → b < w.heap.size) (hB : ∀ b, B b → b < w.heap.size) (G : Glob w)
  (hlive : ∀ W : World, Calls Tryz.prog 11 #[] W fun e W' => e = .returned (.bool true) ∧ Below W.heap.size W W') :
  Calls Tryz.prog 3 #[.agg L.toArray, .agg M.toArray, .int .i32 code] w fun e w' => e = .returned (.bool true) ∧ Below w.heap.size w w' := by
 have lt16 : tc.length = 16 := hT.length
 have lt22 : rc.length = 22 := hR.length
 have lL : L.length = 20 := by rw [hL]; exact dl20 lt16
 have lM : M.length = 25 := by rw [hM]; exact rl25 lt22
 obtain ⟨ps, px, pz, pt, ux, uz, uc, e1, td, rd, okD, okE, hout⟩ := made_out s x z ti f subs g rsubs okT okR
 obtain ⟨ps', px', pz', pt', ux', uz', uc', e2, td', rd', okD', okE', hTk, hRk, hrp, hrr⟩ := refused_any s x z ti code
 have bA : Below w.heap.size w ((w.alloc (.cells L.toArray 35)).alloc (.cells M.toArray 42)) := ((Below.refl w.heap.size w).alloc (Nat.le_refl _) (.cells L.toArray 35)).alloc (by simp) _
 have g0 : ((w.alloc (.cells L.toArray 35)).alloc (.cells M.toArray 42)).heap[w.heap.size]? = some (.cells L.toArray 35 (0, 0)) := by
  rw [Below.heap_alloc _ _ _ (by simp)]; exact heap_alloc_new w _
 have g1 : ((w.alloc (.cells L.toArray 35)).alloc (.cells M.toArray 42)).heap[w.heap.size + 1]? = some (.cells M.toArray 42 (0, 0)) := heap_alloc2_new w _ _
 have szA : ((w.alloc (.cells L.toArray 35)).alloc (.cells M.toArray 42)).heap.size = w.heap.size + 2 := by simp
 have HC0 : RowKit.Hid (L.toArray[0]? = some (.int .i64 s)) := Lib.hid (by rw [hL]; rfl)
 have HC1 : RowKit.Hid (L.toArray[1]? = some (.int .i32 x)) := Lib.hid (by rw [hL]; rfl)
 have HC2 : RowKit.Hid (L.toArray[2]? = some (.int .i64 z)) := Lib.hid (by rw [hL]; rfl)
 have HC3 : RowKit.Hid (L.toArray[3]? = some (.int .i64 ti)) := Lib.hid (by rw [hL]; rfl)
 have hrD := fun (W : World) (h : W.heap[w.heap.size]? = some (.cells L.toArray 35 (0, 0))) => row_rangeD (s := s) (x := x) (z := z) (t := ti) (cs := tc) (by rw [← hL]; exact h)
 have hrR := fun (W : World) (h : W.heap[w.heap.size + 1]? = some (.cells M.toArray 42 (0, 0))) => row_rangeR (x := qx) (z := qz) (c := qc) (cs := rc) (by rw [← hM]; exact h)
 have r0 := row_range g0
 have HI35 := i35 lL
 have HI40 := i40 lt22
 have HI33 := i33 lt16
 have hCl := refclone_any (.mk f subs) A (preD s x z ti) tc L hL rfl (by intro u hu; unfold preD at hu; simp only [List.mem_cons, List.not_mem_nil, or_false] at hu; rcases hu with rfl | rfl | rfl | rfl <;> rfl) ((w.alloc (.cells L.toArray 35)).alloc (.cells M.toArray 42)) okT (TxnR.kept (fun b hb => bA.block b (hA b hb)) hT) (fun b hb => Nat.lt_of_lt_of_le (hA b hb) bA.size)
 have hCr := fun (W : World) (hb : Below w.heap.size w W) => cloneres_any (.mk g rsubs) B rc W okR (ResR.kept (fun b hb' => hb.block b (hB b hb')) hR) (fun b hb' => Nat.lt_of_lt_of_le (hB b hb') hb.size)
 unfold RClonedPost at hCr
 have hMp := fun (W : World) (hb : Below w.heap.size w W) (A' B' : Nat → Prop) (cs rs : List Value) (h1 : TxnR A' W (.mk f subs) cs) (h2 : ResR B' W (.mk g rsubs) rs) (h3 : ∀ b, A' b → b < W.heap.size) (h4 : ∀ b, B' b → b < W.heap.size) =>
  (pmade_any f subs g rsubs A' B' s x z ti cs rs W okT okR h1 h2 h3 h4 (G.below hb)).mono (fun E W' h => hout _ _ _ h)
 have hMr := fun (W : World) (hb : Below w.heap.size w W) =>
  (rmade_any f subs g rsubs A B s x z ti tc rc W okT okR (TxnR.kept (fun b hb' => hb.block b (hA b hb')) hT) (ResR.kept (fun b hb' => hb.block b (hB b hb')) hR) (fun b hb' => Nat.lt_of_lt_of_le (hA b hb') hb.size) (fun b hb' => Nat.lt_of_lt_of_le (hB b hb') hb.size)).mono (fun E W' h => hout _ _ _ h)
 unfold OutPost at hMp hMr hrp hrr
 obtain ⟨v1, v2, v3, v4, v5, hcells⟩ : ∃ v1 v2 v3 v4 v5, tc = f.cells v1 v2 v3 v4 v5 := by
  obtain ⟨v1, v2, v3, v4, v5, h, _⟩ := hT.own.ex
  exact ⟨v1, v2, v3, v4, v5, h⟩
 have hCoR := fun (W : World) => refcode_any f (preD s x z ti) L v1 v2 v3 v4 v5 rfl (by rw [hL, hcells]) W
 clear hcells lt16 lt22 lL lM hL hM hT hR hout G okT okR
 go_enter Tryz.func3, Tryz.ntmps3
 go_wp2_with (first
  | (with_reducible refine wpList_load_mid rfl 35 (.tmp 3) rfl w.heap.size 0 rfl L _ r0 Tryz.underlying35 rfl HI35.out ?_)
  | (go_at_call 4; with_reducible refine hCl.mono ?_; rintro e w1 ⟨cs1, rfl, hb1, hT1⟩; have bw1 : Below w.heap.size w w1 := bA.trans (hb1.mono bA.size); have sz1 : w.heap.size + 2 ≤ w1.heap.size := (by (have := hb1.size; omega)); have hx1 := (hb1.block w.heap.size (by omega)).trans g0; have hy1 := (hb1.block (w.heap.size + 1) (by omega)).trans g1; have HID1 := i35a (cs := (preD s x z ti ++ cs1)) (dl20 hT1.length); have HZ1 := Lib.hid (zd20 (s := s) (x := x) (z := z) (t := ti) hT1.length); have HO1 := Lib.hid (preD_one s x z ti cs1 (TxnR.one hT1)); have bw1' : Below w.heap.size w (w1.alloc (.cells (preD s x z ti ++ cs1).toArray 35)) := bw1.alloc bw1.size _; have hx1' := (Below.heap_alloc w1 (.cells (preD s x z ti ++ cs1).toArray 35) _ (by omega)).trans hx1; have hy1' := (Below.heap_alloc w1 (.cells (preD s x z ti ++ cs1).toArray 35) _ (by omega)).trans hy1; have hd1' := heap_alloc_new w1 (.cells (preD s x z ti ++ cs1).toArray 35); have rM1 := hrR _ hy1'; have hCr' := hCr _ bw1'; have HJ1 := i35 (cs := (preD s x z ti ++ cs1)) (dl20 hT1.length); obtain ⟨u1, u2, u3, u4, u5, hu, _⟩ := hT1.own.ex; have hCoP := (fun (W : World) => pcode_any f (preD s x z ti) (preD s x z ti ++ cs1) u1 u2 u3 u4 u5 rfl (by rw [hu]) W); clear hu hCl hCr hx1 hy1 g0 g1; dsimp only)
  | (with_reducible refine wpList_store_new rfl 35 (.tmp 7) (.tmp 16) rfl ZP331 (preD s x z ti ++ cs1).toArray rfl rfl HID1.out HZ1.out HO1.out ?_)
  | (with_reducible refine wpList_load_mid rfl 40 (.tmp 17) rfl (w.heap.size + 1) 3 rfl rc _ rM1 Tryz.underlying40 rfl HI40.out ?_)
  | (go_at_call 5; with_reducible refine hCr'.mono ?_; rintro e w2 ⟨rs1, rfl, hb2, hR2⟩; have bw2 : Below w.heap.size w w2 := bw1'.trans (hb2.mono bw1'.size); have sz2 : w1.heap.size + 1 ≤ w2.heap.size := (by (have := hb2.size; simp at this; omega)); have HID2 := i40a hR2.length; have HZ2 := Lib.hid (zs22 hR2.length); have HO2 := Lib.hid (res_one hR2); have HI2 := i40 hR2.length; have HI1 := i33 hT1.length; have bw2' : Below w.heap.size w (w2.alloc (.cells rs1.toArray 40)) := bw2.alloc bw2.size _; have k2 : ∀ b, b < (w1.alloc (.cells (preD s x z ti ++ cs1).toArray 35)).heap.size → (w2.alloc (.cells rs1.toArray 40)).heap[b]? = (w1.alloc (.cells (preD s x z ti ++ cs1).toArray 35)).heap[b]? := (fun b hb => (Below.heap_alloc w2 _ _ (Nat.lt_of_lt_of_le hb hb2.size)).trans (hb2.block b hb)); have hx2 := (k2 w.heap.size (by simp; omega)).trans hx1'; have hy2 := (k2 (w.heap.size + 1) (by simp; omega)).trans hy1'; have hd2 := (k2 w1.heap.size (by simp)).trans hd1'; have hs2 := heap_alloc_new w2 (.cells rs1.toArray 40); have rT2 := row_rangeD hd2; have rS2 := row_range hs2; have c0b : (w2.alloc (.cells rs1.toArray 40)).cell? ⟨w.heap.size, 0, none⟩ = some (.int .i64 s) := st_at hx2 HC0.out; have c1b : (w2.alloc (.cells rs1.toArray 40)).cell? ⟨w.heap.size, 1, none⟩ = some (.int .i32 x) := st_at hx2 HC1.out; have c2b : (w2.alloc (.cells rs1.toArray 40)).cell? ⟨w.heap.size, 2, none⟩ = some (.int .i64 z) := st_at hx2 HC2.out; have c3b : (w2.alloc (.cells rs1.toArray 40)).cell? ⟨w.heap.size, 3, none⟩ = some (.int .i64 ti) := st_at hx2 HC3.out; have hMp' := hMp (w2.alloc (.cells rs1.toArray 40)) bw2' _ _ cs1 rs1 (TxnR.kept (fun b hb => (k2 b (Nat.lt_of_lt_of_le hb.2 (by simp))).trans (Below.heap_alloc w1 _ _ hb.2)) hT1) (ResR.kept (fun b hb => Below.heap_alloc w2 _ _ hb.2) hR2) (fun b hb => by have := hb.2; simp; omega) (fun b hb => by have := hb.2; simp; omega); clear hMp hCr' k2 hx1' hy1' hd1' rM1 hb2 hb1; dsimp only)
  | (with_reducible refine wpList_store_new rfl 40 (.tmp 8) (.tmp 19) rfl ZP333 rs1.toArray rfl rfl HID2.out HZ2.out HO2.out ?_)
  | (with_reducible refine wpList_load_mid rfl 33 (.tmp 29) rfl w1.heap.size 4 rfl cs1 _ rT2 Tryz.underlying33 rfl HI1.out ?_)
  | (with_reducible refine wpList_load_mid rfl 40 (.tmp 8) rfl w2.heap.size 0 rfl rs1 _ rS2 Tryz.underlying40 rfl HI2.out ?_)
  | (go_at_call 6; with_reducible refine hMp'.mono ?_; rintro e w3 ⟨A3, cs3, rs3, rfl, hT3, hR3, hA3, hb3⟩; obtain ⟨n1, n2, n3, n4, n5⟩ := two_rows w3 (preD ps px pz pt ++ cs3).toArray (preR ux uz uc ++ rs3).toArray; have HID3 := i35a (cs := (preD ps px pz pt ++ cs3)) (dl20 hT3.length); have HIR3 := i42a (cs := (preR ux uz uc ++ rs3)) (rl25 hR3.length); have HJD3 := i35 (cs := (preD ps px pz pt ++ cs3)) (dl20 hT3.length); have HJR3 := i42 (cs := (preR ux uz uc ++ rs3)) (rl25 hR3.length); have HZ3 := Lib.hid (zd20 (s := ps) (x := px) (z := pz) (t := pt) hT3.length); have HY3 := Lib.hid (zr25 (x := ux) (z := uz) (c := uc) hR3.length); have HO3 := Lib.hid (preD_one ps px pz pt cs3 (TxnR.one hT3)); have HP3 := Lib.hid (preR_one ux uz uc rs3 (ResR.one hR3)); have z30 : (ZP330 w3).heap[w3.heap.size]? = some (.cells ZP331 35 (0, 0)) := (Below.heap_alloc _ _ _ (by simp)).trans (heap_alloc_new w3 _); have z31 : ((ZP330 w3).setRow w3.heap.size (preD ps px pz pt ++ cs3).toArray).heap[w3.heap.size + 1]? = some (.cells ZP332 42 (0, 0)) := (setRow_apart _ _ _ _ (by omega)).trans (heap_alloc2_new w3 _ _); have sz3 : w2.heap.size + 1 ≤ w3.heap.size := (by (have := hb3.size; simp at this; omega)); have bw3 : Below w.heap.size w w3 := bw2'.trans (hb3.mono bw2'.size); have hx3 := (n3 w.heap.size (by omega)).trans ((hb3.block w.heap.size (by simp; omega)).trans hx2); have hy3 := (n3 (w.heap.size + 1) (by omega)).trans ((hb3.block (w.heap.size + 1) (by simp; omega)).trans hy2); have hd3 := (n3 w1.heap.size (by omega)).trans ((hb3.block w1.heap.size (by simp; omega)).trans hd2); have bV3 := bw3.trans (n5.mono bw3.size); have hT3' := TxnR.kept (fun b hb => n3 b (hA3 b hb)) hT3; have hR3' := ResR.kept (fun b hb => n3 b (hA3 b hb)) hR3; clear hMp' hx2 hy2 hd2 hs2 rT2 rS2 hT3 hR3 hb3 n3 n5 c0b c1b c2b c3b; dsimp only)
  | (with_reducible refine wpList_store_row rfl 35 (.tmp 9) (.tmp 33) rfl w3.heap.size (preD ps px pz pt ++ cs3).toArray rfl rfl 35 _ z30 HID3.out HZ3.out HO3.out ?_)
  | (with_reducible refine wpList_store_row rfl 42 (.tmp 10) (.tmp 34) rfl (w3.heap.size + 1) (preR ux uz uc ++ rs3).toArray rfl rfl 42 _ z31 HIR3.out HY3.out HP3.out ?_; clear z30 z31; generalize (((ZP330 w3).setRow w3.heap.size (preD ps px pz pt ++ cs3).toArray).setRow (w3.heap.size + 1) (preR ux uz uc ++ rs3).toArray) = V3 at *; have c0d : V3.cell? ⟨w.heap.size, 0, none⟩ = some (.int .i64 s) := st_at hx3 HC0.out; have c1d : V3.cell? ⟨w.heap.size, 1, none⟩ = some (.int .i32 x) := st_at hx3 HC1.out; have c2d : V3.cell? ⟨w.heap.size, 2, none⟩ = some (.int .i64 z) := st_at hx3 HC2.out; have c3d : V3.cell? ⟨w.heap.size, 3, none⟩ = some (.int .i64 ti) := st_at hx3 HC3.out; have rT3 := hrD _ hx3; have rM3 := hrR _ hy3; have hMr' := hMr V3 bV3; clear hMr hrR)
  | (with_reducible refine wpList_load_mid rfl 33 (.tmp 45) rfl w.heap.size 4 rfl tc _ rT3 Tryz.underlying33 rfl HI33.out ?_)
  | (with_reducible refine wpList_load_mid rfl 40 (.tmp 47) rfl (w.heap.size + 1) 3 rfl rc _ rM3 Tryz.underlying40 rfl HI40.out ?_)
  | (go_at_call 7; with_reducible refine hMr'.mono ?_; rintro e w4 ⟨A4, cs4, rs4, rfl, hT4, hR4, hA4, hb4⟩; obtain ⟨m1, m2, m3, m4, m5⟩ := two_rows w4 (preD ps px pz pt ++ cs4).toArray (preR ux uz uc ++ rs4).toArray; have HID4 := i35a (cs := (preD ps px pz pt ++ cs4)) (dl20 hT4.length); have HIR4 := i42a (cs := (preR ux uz uc ++ rs4)) (rl25 hR4.length); have HJD4 := i35 (cs := (preD ps px pz pt ++ cs4)) (dl20 hT4.length); have HJR4 := i42 (cs := (preR ux uz uc ++ rs4)) (rl25 hR4.length); have HZ4 := Lib.hid (zd20 (s := ps) (x := px) (z := pz) (t := pt) hT4.length); have HY4 := Lib.hid (zr25 (x := ux) (z := uz) (c := uc) hR4.length); have HO4 := Lib.hid (preD_one ps px pz pt cs4 (TxnR.one hT4)); have HP4 := Lib.hid (preR_one ux uz uc rs4 (ResR.one hR4)); have HL3 := Lib.hid hT3'.length; have HL4 := Lib.hid hT4.length; have HM3 := Lib.hid hR3'.length; have HM4 := Lib.hid hR4.length; have z40 : (ZP330 w4).heap[w4.heap.size]? = some (.cells ZP331 35 (0, 0)) := (Below.heap_alloc _ _ _ (by simp)).trans (heap_alloc_new w4 _); have z41 : ((ZP330 w4).setRow w4.heap.size (preD ps px pz pt ++ cs4).toArray).heap[w4.heap.size + 1]? = some (.cells ZP332 42 (0, 0)) := (setRow_apart _ _ _ _ (by omega)).trans (heap_alloc2_new w4 _ _); have sz4 := hb4.size; have bw4 : Below w.heap.size w w4 := bV3.trans (hb4.mono bV3.size); have q4 : ∀ b, b < V3.heap.size → _ := (fun b hb => (m3 b (Nat.lt_of_lt_of_le hb sz4)).trans (hb4.block b hb)); have hx4 := (q4 w.heap.size (by have := bV3.size; omega)).trans hx3; have hd4 := (q4 w1.heap.size (by omega)).trans hd3; have n1' := (q4 w3.heap.size (by omega)).trans n1; have n2' := (q4 (w3.heap.size + 1) (by omega)).trans n2; have bV4 := bw4.trans (m5.mono bw4.size); have hT3x := TxnR.kept (fun b hb => q4 b (by have := hA3 b hb; omega)) hT3'; have hR3x := ResR.kept (fun b hb => q4 b (by have := hA3 b hb; omega)) hR3'; have hT4' := TxnR.kept (fun b hb => m3 b (hA4 b hb)) hT4; have hR4' := ResR.kept (fun b hb => m3 b (hA4 b hb)) hR4; clear hMr' hx3 hy3 hd3 n1 n2 hT3' hR3' hT4 hR4 hb4 m3 m5 q4 c0d c1d c2d c3d rT3 rM3; dsimp only)
  | (with_reducible refine wpList_store_row rfl 35 (.tmp 12) (.tmp 50) rfl w4.heap.size (preD ps px pz pt ++ cs4).toArray rfl rfl 35 _ z40 HID4.out HZ4.out HO4.out ?_)
  | (with_reducible refine wpList_store_row rfl 42 (.tmp 13) (.tmp 51) rfl (w4.heap.size + 1) (preR ux uz uc ++ rs4).toArray rfl rfl 42 _ z41 HIR4.out HY4.out HP4.out ?_; clear z40 z41; generalize (((ZP330 w4).setRow w4.heap.size (preD ps px pz pt ++ cs4).toArray).setRow (w4.heap.size + 1) (preR ux uz uc ++ rs4).toArray) = V4 at *)
  | fail)
 have l3 : w3.heap.size < V4.heap.size := by omega
 have l3' : w3.heap.size + 1 < V4.heap.size := by omega
 have l4 : w4.heap.size < V4.heap.size := by omega
 have l4' : w4.heap.size + 1 < V4.heap.size := by omega
 have l1 : w1.heap.size < V4.heap.size := by omega
 have l0 : w.heap.size < V4.heap.size := by omega
 have hSm := fun (W : World) (hb : Below V4.heap.size V4 W) => same8_any td rd A3 A3 A4 A4 ps px pz pt ux uz uc e1 cs3 rs3 cs4 rs4 (preD ps px pz pt ++ cs3) (preR ux uz uc ++ rs3) (preD ps px pz pt ++ cs4) (preR ux uz uc ++ rs4) W okD okE rfl rfl rfl rfl (TxnR.kept (fun b hb' => hb.block b (by have := hA3 b hb'; omega)) hT3x) (ResR.kept (fun b hb' => hb.block b (by have := hA3 b hb'; omega)) hR3x) (TxnR.kept (fun b hb' => hb.block b (by have := hA4 b hb'; omega)) hT4') (ResR.kept (fun b hb' => hb.block b (by have := hA4 b hb'; omega)) hR4') (fun b hb' => by have := hA3 b hb'; have := hb.size; omega) (fun b hb' => by have := hA3 b hb'; have := hb.size; omega) (fun b hb' => by have := hA4 b hb'; have := hb.size; omega) (fun b hb' => by have := hA4 b hb'; have := hb.size; omega)
 have hCoP' := hCoP
 have hCoR' := hCoR
 generalize codeD f = cd at hCoP' hCoR'
 clear hCoP hCoR hT3x hR3x hT4' hR4'
 refine wp_region_held_lit (S := fun W => Below V4.heap.size V4 W) 19 #[false, false, false, false, false, false, false, false, false, false, false, false, false, false, false, false, false, false, false] rfl rfl (by kernel_rfl) (Below.refl V4.heap.size V4).drew (fun hHeld => ?_)
 refine wpAnyH_take (i := 0) (oi := { dst := some 53, op := Op.load 35 (Operand.tmp 9), type := 35, pos := "law.go:59", after := #[], guard := none }) (v := .agg (preD ps px pz pt ++ cs3).toArray) rfl (by kernel_rfl) (by kernel_rfl) (by kernel_rfl) (fun _ _ _ h => h) (yieldsIf_load_mid (by rfl) 35 (.tmp 9) rfl w3.heap.size 0 rfl (preD ps px pz pt ++ cs3) _ (fun wz hSw => range_below (row_range n1') hSw l3) Tryz.underlying35 rfl HJD3.out) hHeld ?_
 simp only [Act.put, List.setIfInBounds_toArray, List.set]
 refine wpAnyH_take (i := 1) (oi := { dst := some 54, op := Op.load 42 (Operand.tmp 10), type := 42, pos := "law.go:59", after := #[], guard := none }) (v := .agg (preR ux uz uc ++ rs3).toArray) rfl (by kernel_rfl) (by kernel_rfl) (by kernel_rfl) (fun _ _ _ h => h) (yieldsIf_load_mid (by rfl) 42 (.tmp 10) rfl (w3.heap.size + 1) 0 rfl (preR ux uz uc ++ rs3) _ (fun wz hSw => range_below (row_range n2') hSw l3') Tryz.underlying42 rfl HJR3.out) hHeld ?_
 simp only [Act.put, List.setIfInBounds_toArray, List.set]
 refine wpAnyH_take (i := 2) (oi := { dst := some 55, op := Op.move (Operand.tmp 11), type := 45, pos := "law.go:59", after := #[], guard := none }) (v := .int .i64 e1) rfl (by kernel_rfl) (by kernel_rfl) (by kernel_rfl) (fun _ _ _ h => h) (Or.inl ⟨by rfl, fun wz hSw => by go_simp⟩) hHeld ?_
 simp only [Act.put, List.setIfInBounds_toArray, List.set]
 refine wpAnyH_take (i := 3) (oi := { dst := some 56, op := Op.load 35 (Operand.tmp 12), type := 35, pos := "law.go:59", after := #[], guard := none }) (v := .agg (preD ps px pz pt ++ cs4).toArray) rfl (by kernel_rfl) (by kernel_rfl) (by kernel_rfl) (fun _ _ _ h => h) (yieldsIf_load_mid (by rfl) 35 (.tmp 12) rfl w4.heap.size 0 rfl (preD ps px pz pt ++ cs4) _ (fun wz hSw => range_below (row_range m1) hSw l4) Tryz.underlying35 rfl HJD4.out) hHeld ?_
 simp only [Act.put, List.setIfInBounds_toArray, List.set]
 refine wpAnyH_take (i := 4) (oi := { dst := some 57, op := Op.load 42 (Operand.tmp 13), type := 42, pos := "law.go:59", after := #[], guard := none }) (v := .agg (preR ux uz uc ++ rs4).toArray) rfl (by kernel_rfl) (by kernel_rfl) (by kernel_rfl) (fun _ _ _ h => h) (yieldsIf_load_mid (by rfl) 42 (.tmp 13) rfl (w4.heap.size + 1) 0 rfl (preR ux uz uc ++ rs4) _ (fun wz hSw => range_below (row_range m2) hSw l4') Tryz.underlying42 rfl HJR4.out) hHeld ?_
 simp only [Act.put, List.setIfInBounds_toArray, List.set]
 refine wpAnyH_take (i := 5) (oi := { dst := some 58, op := Op.move (Operand.tmp 14), type := 3, pos := "law.go:59", after := #[], guard := none }) (v := .int .i64 e1) rfl (by kernel_rfl) (by kernel_rfl) (by kernel_rfl) (fun _ _ _ h => h) (Or.inl ⟨by rfl, fun wz hSw => by go_simp⟩) hHeld ?_
 simp only [Act.put, List.setIfInBounds_toArray, List.set]
 refine wpAnyH_ready (rs := [6]) (by kernel_rfl) (by simp) ?_
 refine AllReadyH.cons (o := { dst := some 59, op := Op.call { callee := Callee.value (Operand.func 8), args := #[Operand.tmp 53, Operand.tmp 54, Operand.tmp 55, Operand.tmp 56, Operand.tmp 57, Operand.tmp 58], argTypes := #[35, 42, 45, 35, 42, 3] }, type := 4, pos := "law.go:59", after := #[{ on := 0, ground := Ground.data }, { on := 1, ground := Ground.data }, { on := 2, ground := Ground.data }, { on := 3, ground := Ground.data }, { on := 4, ground := Ground.data }, { on := 5, ground := Ground.data }], guard := none }) rfl (fun K hK => ?_) AllReadyH.nil
 go_simp
 refine (hSm _ hHeld).mono ?_
 rintro e w5 ⟨rfl, hbx⟩
 replace hbx := hHeld.trans (hbx.mono hHeld.size)
 clear hHeld
 refine hK.out _ _ hbx (fun hHeld => ?_)
 clear hK K hbx
 refine wpAnyH_take (i := 7) (oi := { dst := some 60, op := Op.unOp UnOp.not 4 (Operand.tmp 59), type := 4, pos := "law.go:59", after := #[{ on := 6, ground := Ground.data }], guard := none }) (v := .bool false) rfl (by kernel_rfl) (by kernel_rfl) (by kernel_rfl) (fun _ _ _ h => h) (Or.inl ⟨by rfl, fun wz hSw => by go_simp⟩) hHeld ?_
 simp only [Act.put, List.setIfInBounds_toArray, List.set]
 refine wpAnyH_take (i := 8) (oi := { dst := some 61, op := Op.move (Operand.tmp 60), type := 4, pos := "law.go:59", after := #[{ on := 7, ground := Ground.data }, { on := 6, ground := Ground.chain }], guard := none }) (v := .bool false) rfl (by kernel_rfl) (by kernel_rfl) (by kernel_rfl) (fun _ _ _ h => h) (Or.inl ⟨by rfl, fun wz hSw => by go_simp⟩) hHeld ?_
 simp only [Act.put, List.setIfInBounds_toArray, List.set]
 refine wpAnyH_take (i := 9) (oi := { dst := some 62, op := Op.load 35 (Operand.tmp 7), type := 35, pos := "law.go:59", after := #[{ on := 8, ground := Ground.guard }], guard := some (8, false) }) (v := .agg (preD s x z ti ++ cs1).toArray) rfl (by kernel_rfl) (by kernel_rfl) (by kernel_rfl) (fun _ _ _ h => h) (yieldsIf_load_mid (by rfl) 35 (.tmp 7) rfl w1.heap.size 0 rfl (preD s x z ti ++ cs1) _ (fun wz hSw => range_below (row_range hd4) hSw l1) Tryz.underlying35 rfl HJ1.out) hHeld ?_
 simp only [Act.put, List.setIfInBounds_toArray, List.set]
 refine wpAnyH_take (i := 11) (oi := { dst := some 64, op := Op.load 35 (Operand.tmp 3), type := 35, pos := "law.go:59", after := #[{ on := 8, ground := Ground.guard }], guard := some (8, false) }) (v := .agg L.toArray) rfl (by kernel_rfl) (by kernel_rfl) (by kernel_rfl) (fun _ _ _ h => h) (yieldsIf_load_mid (by rfl) 35 (.tmp 3) rfl w.heap.size 0 rfl L _ (fun wz hSw => range_below (row_range hx4) hSw l0) Tryz.underlying35 rfl HI35.out) hHeld ?_
 simp only [Act.put, List.setIfInBounds_toArray, List.set]
 refine wpAnyH_ready (rs := [10]) (by kernel_rfl) (by simp) ?_
 refine AllReadyH.cons (o := { dst := some 63, op := Op.call { callee := Callee.value (Operand.func 9), args := #[Operand.tmp 62], argTypes := #[35] }, type := 30, pos := "law.go:59", after := #[{ on := 9, ground := Ground.data }, { on := 8, ground := Ground.chain }, { on := 8, ground := Ground.guard }], guard := some (8, false) }) rfl (fun K hK => ?_) AllReadyH.nil
 go_simp
 refine (hCoP' _).mono ?_
 rintro e w6 ⟨rfl, hbx⟩
 replace hbx := hHeld.trans (hbx.mono hHeld.size)
 clear hHeld
 refine hK.out _ _ hbx (fun hHeld => ?_)
 clear hK K hbx
 refine wpAnyH_ready (rs := [12]) (by kernel_rfl) (by simp) ?_
 refine AllReadyH.cons (o := { dst := some 65, op := Op.call { callee := Callee.value (Operand.func 10), args := #[Operand.tmp 64], argTypes := #[35] }, type := 30, pos := "law.go:59", after := #[{ on := 11, ground := Ground.data }, { on := 10, ground := Ground.chain }, { on := 8, ground := Ground.guard }], guard := some (8, false) }) rfl (fun K hK => ?_) AllReadyH.nil
 go_simp
 refine (hCoR' _).mono ?_
 rintro e w7 ⟨rfl, hbx⟩
 replace hbx := hHeld.trans (hbx.mono hHeld.size)
 clear hHeld
 refine hK.out _ _ hbx (fun hHeld => ?_)
 clear hK K hbx
 refine wpAnyH_take (i := 13) (oi := { dst := some 66, op := Op.binOp BinOp.neq 30 (Operand.tmp 63) (Operand.tmp 65) 30, type := 4, pos := "law.go:59", after := #[{ on := 10, ground := Ground.data }, { on := 12, ground := Ground.data }, { on := 8, ground := Ground.guard }], guard := some (8, false) }) (v := .bool false) rfl (by kernel_rfl) (by kernel_rfl) (by kernel_rfl) (fun _ _ _ h => h) (Or.inl ⟨by rfl, fun wz hSw => by go_simp⟩) hHeld ?_
 simp only [Act.put, List.setIfInBounds_toArray, List.set]
 refine wpAnyH_take (i := 14) (oi := { dst := some 67, op := Op.pick (Operand.tmp 61) (Operand.const (Value.bool true)) (Operand.tmp 66), type := 4, pos := "law.go:59", after := #[{ on := 8, ground := Ground.data }, { on := 13, ground := Ground.data }], guard := none }) (v := .bool false) rfl (by kernel_rfl) (by kernel_rfl) (by kernel_rfl) (fun _ _ _ h => h) (Or.inl ⟨by rfl, fun wz hSw => by go_simp⟩) hHeld ?_
 simp only [Act.put, List.setIfInBounds_toArray, List.set]
 refine wpAnyH_take (i := 15) (oi := { dst := some 68, op := Op.move (Operand.tmp 67), type := 4, pos := "law.go:59", after := #[{ on := 14, ground := Ground.data }, { on := 12, ground := Ground.chain }], guard := none }) (v := .bool false) rfl (by kernel_rfl) (by kernel_rfl) (by kernel_rfl) (fun _ _ _ h => h) (Or.inl ⟨by rfl, fun wz hSw => by go_simp⟩) hHeld ?_
 simp only [Act.put, List.setIfInBounds_toArray, List.set]
 refine wpAnyH_ready (rs := [16]) (by kernel_rfl) (by simp) ?_
 refine AllReadyH.cons (o := { dst := some 69, op := Op.call { callee := Callee.value (Operand.func 11), args := #[], argTypes := #[] }, type := 4, pos := "law.go:59", after := #[{ on := 15, ground := Ground.chain }, { on := 15, ground := Ground.guard }], guard := some (15, false) }) rfl (fun K hK => ?_) AllReadyH.nil
 go_simp
 refine (hlive _).mono ?_
 rintro e w8 ⟨rfl, hbx⟩
 replace hbx := hHeld.trans (hbx.mono hHeld.size)
 clear hHeld
 refine hK.out _ _ hbx (fun hHeld => ?_)
 clear hK K hbx
 refine wpAnyH_take (i := 17) (oi := { dst := some 70, op := Op.unOp UnOp.not 4 (Operand.tmp 69), type := 4, pos := "law.go:59", after := #[{ on := 16, ground := Ground.data }, { on := 15, ground := Ground.guard }], guard := some (15, false) }) (v := .bool false) rfl (by kernel_rfl) (by kernel_rfl) (by kernel_rfl) (fun _ _ _ h => h) (Or.inl ⟨by rfl, fun wz hSw => by go_simp⟩) hHeld ?_
 simp only [Act.put, List.setIfInBounds_toArray, List.set]
 refine wpAnyH_take (i := 18) (oi := { dst := some 71, op := Op.pick (Operand.tmp 68) (Operand.const (Value.bool true)) (Operand.tmp 70), type := 4, pos := "law.go:59", after := #[{ on := 15, ground := Ground.data }, { on := 17, ground := Ground.data }], guard := none }) (v := .bool false) rfl (by kernel_rfl) (by kernel_rfl) (by kernel_rfl) (fun _ _ _ h => h) (Or.inl ⟨by rfl, fun wz hSw => by go_simp⟩) hHeld ?_
 simp only [Act.put, List.setIfInBounds_toArray, List.set]
 refine wpAnyH_done (by kernel_rfl) ?_ _
 have b8 : Below w.heap.size w w8 := bV4.trans (hHeld.mono bV4.size)
 have hx5 := (hHeld.block _ l0).trans hx4
 have p1 := (hHeld.block _ l3).trans n1'
 have p2 := (hHeld.block _ l3').trans n2'
 have p3 := (hHeld.block _ l4).trans m1
 have p4 := (hHeld.block _ l4').trans m2
 have s8 := hHeld.size
 have c0e : w8.cell? ⟨w.heap.size, 0, none⟩ = some (.int .i64 s) := st_at hx5 HC0.out; have c1e : w8.cell? ⟨w.heap.size, 1, none⟩ = some (.int .i32 x) := st_at hx5 HC1.out; have c2e : w8.cell? ⟨w.heap.size, 2, none⟩ = some (.int .i64 z) := st_at hx5 HC2.out; have c3e : w8.cell? ⟨w.heap.size, 3, none⟩ = some (.int .i64 ti) := st_at hx5 HC3.out
 have hrp' := hrp w8
 clear hHeld hSm hCoP' hCoR' n1' n2' m1 m2 hx4 hd4 hlive hrp
 go_wp2_with (first
  | (go_at_call 12; with_reducible refine hrp'.mono ?_; rintro e w9 ⟨A5, cs5, rs5, rfl, hT5, hR5, hA5, hb9⟩; have y1 := (hb9.block _ (by omega)).trans p1; have y2 := (hb9.block _ (by omega)).trans p2; have y3 := (hb9.block _ (by omega)).trans p3; have y4 := (hb9.block _ (by omega)).trans p4; have yx := (hb9.block _ (by omega)).trans hx5; have s9 := hb9.size; have b9 := b8.trans (hb9.mono b8.size); obtain ⟨k1, k2, k3, k4, k5, k6⟩ := two_set w9 w3.heap.size _ _ (preD ps' px' pz' pt' ++ cs5).toArray (preR ux' uz' uc' ++ rs5).toArray y1 y2; have HID5 := i35a (cs := (preD ps' px' pz' pt' ++ cs5)) (dl20 hT5.length); have HIR5 := i42a (cs := (preR ux' uz' uc' ++ rs5)) (rl25 hR5.length); have HJD5 := i35 (cs := (preD ps' px' pz' pt' ++ cs5)) (dl20 hT5.length); have HJR5 := i42 (cs := (preR ux' uz' uc' ++ rs5)) (rl25 hR5.length); have HZ5 := Lib.hid (sz20 (s := ps) (x := px) (z := pz) (t := pt) (s' := ps') (x' := px') (z' := pz') (t' := pt') HL3.out hT5.length); have HY5 := Lib.hid (sz25 (x := ux) (z := uz) (c := uc) (x' := ux') (z' := uz') (c' := uc') HM3.out hR5.length); have HO5 := Lib.hid (preD_one ps' px' pz' pt' cs5 (TxnR.one hT5)); have HP5 := Lib.hid (preR_one ux' uz' uc' rs5 (ResR.one hR5)); have b5 := k5 _ _ b9 (by omega); have e3 := (k3 _ (by omega) (by omega)).trans y3; have e4 := (k3 _ (by omega) (by omega)).trans y4; have ex := (k3 _ (by omega) (by omega)).trans yx; clear hrp' p1 p2 p3 p4 hx5 hb9 y2 y3 y4 yx k3 k5 c0e c1e c2e c3e; dsimp only)
  | (with_reducible refine wpList_store_row rfl 35 (.tmp 9) (.tmp 83) rfl w3.heap.size (preD ps' px' pz' pt' ++ cs5).toArray rfl rfl 35 _ y1 HID5.out HZ5.out HO5.out ?_)
  | (with_reducible refine wpList_store_row rfl 42 (.tmp 10) (.tmp 84) rfl (w3.heap.size + 1) (preR ux' uz' uc' ++ rs5).toArray rfl rfl 42 _ k6 HIR5.out HY5.out HP5.out ?_; clear k6 y1; generalize ((w9.setRow w3.heap.size (preD ps' px' pz' pt' ++ cs5).toArray).setRow (w3.heap.size + 1) (preR ux' uz' uc' ++ rs5).toArray) = V5 at *; have c0f : V5.cell? ⟨w.heap.size, 0, none⟩ = some (.int .i64 s) := st_at ex HC0.out; have c1f : V5.cell? ⟨w.heap.size, 1, none⟩ = some (.int .i32 x) := st_at ex HC1.out; have c2f : V5.cell? ⟨w.heap.size, 2, none⟩ = some (.int .i64 z) := st_at ex HC2.out; have c3f : V5.cell? ⟨w.heap.size, 3, none⟩ = some (.int .i64 ti) := st_at ex HC3.out; have hrr' := hrr V5; clear hrr)
  | (go_at_call 13; with_reducible refine hrr'.mono ?_; rintro e w10 ⟨A6, cs6, rs6, rfl, hT6, hR6, hA6, hb10⟩; have y1 := (hb10.block _ (by omega)).trans e3; have y2 := (hb10.block _ (by omega)).trans e4; have y3 := (hb10.block _ (by omega)).trans k1; have y4 := (hb10.block _ (by omega)).trans k2; have s10 := hb10.size; have b10 := b5.trans (hb10.mono b5.size); obtain ⟨j1, j2, j3, j4, j5, j6⟩ := two_set w10 w4.heap.size _ _ (preD ps' px' pz' pt' ++ cs6).toArray (preR ux' uz' uc' ++ rs6).toArray y1 y2; have HID6 := i35a (cs := (preD ps' px' pz' pt' ++ cs6)) (dl20 hT6.length); have HIR6 := i42a (cs := (preR ux' uz' uc' ++ rs6)) (rl25 hR6.length); have HJD6 := i35 (cs := (preD ps' px' pz' pt' ++ cs6)) (dl20 hT6.length); have HJR6 := i42 (cs := (preR ux' uz' uc' ++ rs6)) (rl25 hR6.length); have HZ6 := Lib.hid (sz20 (s := ps) (x := px) (z := pz) (t := pt) (s' := ps') (x' := px') (z' := pz') (t' := pt') HL4.out hT6.length); have HY6 := Lib.hid (sz25 (x := ux) (z := uz) (c := uc) (x' := ux') (z' := uz') (c' := uc') HM4.out hR6.length); have HO6 := Lib.hid (preD_one ps' px' pz' pt' cs6 (TxnR.one hT6)); have HP6 := Lib.hid (preR_one ux' uz' uc' rs6 (ResR.one hR6)); have b6 := j5 _ _ b10 (by omega); have f1 := (j3 _ (by omega) (by omega)).trans y3; have f2 := (j3 _ (by omega) (by omega)).trans y4; clear hrr' e3 e4 ex hb10 y2 y3 y4 j3 j5 k1 k2 c0f c1f c2f c3f; dsimp only)
  | (with_reducible refine wpList_store_row rfl 35 (.tmp 12) (.tmp 97) rfl w4.heap.size (preD ps' px' pz' pt' ++ cs6).toArray rfl rfl 35 _ y1 HID6.out HZ6.out HO6.out ?_)
  | (with_reducible refine wpList_store_row rfl 42 (.tmp 13) (.tmp 98) rfl (w4.heap.size + 1) (preR ux' uz' uc' ++ rs6).toArray rfl rfl 42 _ j6 HIR6.out HY6.out HP6.out ?_; clear j6 y1; generalize ((w10.setRow w4.heap.size (preD ps' px' pz' pt' ++ cs6).toArray).setRow (w4.heap.size + 1) (preR ux' uz' uc' ++ rs6).toArray) = V6 at *; have o1 := row_range f1; have o2 := row_range f2; have o3 := row_range j1; have o4 := row_range j2; have hLast := same8_any td' rd' (fun _ => False) (fun _ => False) (fun _ => False) (fun _ => False) ps' px' pz' pt' ux' uz' uc' e2 cs5 rs5 cs6 rs6 (preD ps' px' pz' pt' ++ cs5) (preR ux' uz' uc' ++ rs5) (preD ps' px' pz' pt' ++ cs6) (preR ux' uz' uc' ++ rs6) V6 okD' okE' rfl rfl rfl rfl (hTk _ _ _ _ _ hT5) (hRk _ _ _ _ _ hR5) (hTk _ _ _ _ _ hT6) (hRk _ _ _ _ _ hR6) (fun _ h => h.elim) (fun _ h => h.elim) (fun _ h => h.elim) (fun _ h => h.elim))
  | (with_reducible refine wpList_load_mid rfl 35 (.tmp 9) rfl w3.heap.size 0 rfl (preD ps' px' pz' pt' ++ cs5) _ o1 Tryz.underlying35 rfl HJD5.out ?_)
  | (with_reducible refine wpList_load_mid rfl 42 (.tmp 10) rfl (w3.heap.size + 1) 0 rfl (preR ux' uz' uc' ++ rs5) _ o2 Tryz.underlying42 rfl HJR5.out ?_)
  | (with_reducible refine wpList_load_mid rfl 35 (.tmp 12) rfl w4.heap.size 0 rfl (preD ps' px' pz' pt' ++ cs6) _ o3 Tryz.underlying35 rfl HJD6.out ?_)
  | (with_reducible refine wpList_load_mid rfl 42 (.tmp 13) rfl (w4.heap.size + 1) 0 rfl (preR ux' uz' uc' ++ rs6) _ o4 Tryz.underlying42 rfl HJR6.out ?_)
  | (go_at_call 8; with_reducible refine hLast.mono ?_; rintro e w11 ⟨rfl, hb11⟩; have b11 := b6.trans (hb11.mono b6.size); dsimp only)
  | fail)
 go_ret
 exact ⟨rfl, b11⟩
end Go.Proofs.YtfgjiidbafdndaaGreatDoor
