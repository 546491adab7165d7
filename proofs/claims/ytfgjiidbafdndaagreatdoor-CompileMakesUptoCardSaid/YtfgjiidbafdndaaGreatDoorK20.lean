/- Contracts: the program's verdict on a reply without a code. -/
import Derived.Test.YtfgjiidbafdndaaGreatDoorK19
import Derived.Test.YtfgjiidbafdndaaGreatDoorK8
import Derived.Laws.BytesArg
namespace Go.Proofs.YtfgjiidbafdndaaGreatDoor
open Go.RowKit
set_option maxHeartbeats 8000000
set_option maxRecDepth 100000
theorem own_zero (f : ResF) (n : Nat) : own12 f n 0 = if okP f.type = true then (if aloneD f n = 0 then (if (f.code != 0) = true then 1 else 0) else aloneD f n) else 110 := by
 unfold own12 op12 aloneD okP
 have e1 : decide (fields12 f.type ≠ [63] ∧ f.type ≠ -1) = !((fields12 f.type == [63]) || (f.type == -1)) := by
  by_cases h1 : fields12 f.type = [63] <;> by_cases h2 : f.type = -1 <;> simp [h1, h2]
 rw [e1]
 generalize (fields12 f.type == [63]) = x7
 generalize (f.type == -1) = x8
 generalize great12 f = x1
 generalize odd12 f = x2
 generalize spare12 f n = x3
 generalize decide (f.count < 0) = x4
 generalize (f.code != 0) = x5
 generalize (f.type != -1) = x6
 generalize part12 f.type 0 = x9
 cases x7 <;> cases x8 <;> cases x1 <;> cases x2 <;> cases x3 <;> cases x4 <;> cases x5 <;> simp
theorem wpList_store_newk {P : Program} {ops : Array Oper} {rest : List Oper} {op : Oper} {a : Act} {W : World} {Q : Exit → Act → World → Prop} (hgd : op.guard = none) (ty : TypeId) (x y : Operand) (ho : op.op = .store ty x y)
  (k : Nat) (c c' : Array Value) (hk : W.heap.size = k) (hx : a.eval x = .pointer (some ⟨k, 0, none⟩)) (hy : a.eval y = .agg c') (hi : (P.info? ty).map (·.size) = some c'.size) (hs : c.size = c'.size) (h1 : c'.all (·.oneCell') = true)
  (h : wpList P ops Q rest (a.put op.dst undef) (W.alloc (.cells c' ty))) : wpList P ops Q (op :: rest) a (W.alloc (.cells c ty)) :=
 wpList_store_new hgd ty x y ho c c' (by rw [hk]; exact hx) hy hi hs h1 h
theorem ok_ne (t : Int) (h : okP t = true) : t ≠ 0 := by rintro rfl; exact absurd h (by decide)
abbrev ZP270 : Array Value := #[.int .i32 0, .int .i32 0, .string ⟨#[]⟩, .int .i64 0, .int .i64 0, .int .i64 0, .int .i64 0, .int .i32 0, .int .i32 0, .int .i32 0, .int .i64 0, .int .i32 0, .int .i32 0, .int .i64 0, .slice none 0 0, .slice none 0 0, .slice none 0 0, .int .i32 0, .int .i64 0, .int .i32 0, .slice none 0 0, .slice none 0 0]
abbrev ZP271 (x0 : World) (x1 x2 : List Value) : World := ((x0.alloc (.cells x1.toArray 42)).alloc (.cells x2.toArray 40))
theorem pright12_any (f : ResF) (subs : List ResD) (A : Nat → Prop) (pre cs L : List Value) (hL : L = pre ++ cs) (hp : pre.length = 3) (hz : pre[2]? = some (.int .i32 0)) (w : World) (hok : ResOk (.mk f subs)) (hR : ResR A w (.mk f subs) cs) (hA : ∀ b, A b → b < w.heap.size) (G : Glob w) :
  Calls Tryz.prog 18 #[.agg L.toArray] w fun e w' => e = .returned (.int .i64 (right12 f subs)) ∧ Below w.heap.size w w' := by
 have hT := hR.own
 rw [ResOk] at hok
 obtain ⟨hf, hsl, hso⟩ := hok
 have hlen := hT.len
 have hone : cs.toArray.all (·.oneCell') = true := all_oneCell_toArray (by
  obtain ⟨vd, va, vi, vp, vs, hcs, h1, h2, h3, h4, rows, h5, _⟩ := hT.ex
  rw [hcs]; unfold ResF.cells
  obtain ⟨_, _, rfl⟩ := h1.len'; obtain ⟨_, _, rfl⟩ := h2.len'; obtain ⟨_, _, rfl⟩ := h3.len'; obtain ⟨_, _, rfl⟩ := h4.len'; obtain ⟨_, _, rfl⟩ := h5.len'
  intro u hu; simp only [List.mem_cons, List.not_mem_nil, or_false] at hu
  rcases hu with rfl | rfl | rfl | rfl | rfl | rfl | rfl | rfl | rfl | rfl | rfl | rfl | rfl | rfl | rfl | rfl | rfl | rfl | rfl | rfl | rfl | rfl <;> rfl)
 rw [ResR] at hR
 obtain ⟨vd, va, vi, vp, vs, rows, hcs, h1, h2, h3, h4, h5, h6⟩ := hR
 have l5 : rows.length = subs.length := h6.len'
 obtain ⟨s5, q5, rfl⟩ := h5.len'
 rw [l5] at h5 hcs
 obtain ⟨n, hn⟩ : ∃ n, subs.length = n := ⟨_, rfl⟩
 rw [hn] at h5 hcs hT hsl
 have bW : Below w.heap.size w (w.alloc (.cells L.toArray 42)) := (Below.refl w.heap.size w).alloc (Nat.le_refl _) _
 have bW2 : Below w.heap.size w (ZP271 w L cs) := bW.alloc bW.size _
 have hg0 : (w.alloc (.cells L.toArray 42)).heap[w.heap.size]? = some (.cells L.toArray 42 (0, 0)) := heap_alloc_new w _
 have cv : ∀ (W : World) (b o : Nat), W.rangeAt b o L → W.rangeAt b o (pre ++ cs) := fun W b o h => by rw [← hL]; exact h
 have hran : (w.alloc (.cells L.toArray 42)).rangeAt w.heap.size 3 cs := by
  have := st_range hg0
  rw [List.toList_toArray] at this
  have := range_right (cv _ _ _ this)
  rwa [hp, Nat.zero_add] at this
 have c2' : (w.alloc (.cells L.toArray 42)).cell? ⟨w.heap.size, 2, none⟩ = some (.int .i32 0) := st_at hg0 (by rw [List.getElem?_toArray, hL, List.getElem?_append_left (by rw [hp]; decide), hz])
 have c2 : (ZP271 w L cs).cell? ⟨w.heap.size, 2, none⟩ = some (.int .i32 0) := cell_stays ((Below.refl _ _).alloc (Nat.le_refl _) _) c2'
 have hrN : (ZP271 w L cs).rangeAt (w.heap.size + 1) 0 cs := by
  have := new_range (w.alloc (.cells L.toArray 42)) cs 40
  rwa [show (w.alloc (.cells L.toArray 42)).heap.size = w.heap.size + 1 by simp] at this
 have hlt2 : w.heap.size + 1 < (ZP271 w L cs).heap.size := by simp
 have x0 : (ZP271 w L cs).cell? ⟨w.heap.size + 1, 0, none⟩ = some (.int .i32 f.type) := hrN 0 _ (by rw [hcs]; rfl)
 have x1 : (ZP271 w L cs).cell? ⟨w.heap.size + 1, 1, none⟩ = some (.int .i32 f.code) := hrN 1 _ (by rw [hcs]; rfl)
 have x21 : (ZP271 w L cs).cell? ⟨w.heap.size + 1, 21, none⟩ = some (.slice s5 n q5) := by
  have := hrN 21 (.slice s5 n q5) (by rw [hcs]; rfl)
  rwa [Nat.zero_add] at this
 have hi : (Tryz.prog.info? 40).map (·.size) = some cs.length := by rw [hlen]; kernel_rfl
 have HIA : RowKit.Hid ((Tryz.prog.info? 40).map (·.size) = some cs.toArray.size) := Lib.hid (by rw [List.size_toArray]; exact hi)
 have HCZA : RowKit.Hid ((ZP270 : Array Value).size = cs.toArray.size) := Lib.hid (by rw [show cs.toArray.size = 22 by rw [List.size_toArray, hlen]]; rfl)
 have HONEA := Lib.hid hone
 have HK : RowKit.Hid ((w.alloc (.cells L.toArray 42)).heap.size = w.heap.size + 1) := Lib.hid (by simp)
 have hF := pfields_any f.type (ZP271 w L cs)
 unfold FieldsPost at hF
 have hAl := fun (W : World) (lv : Value) (hb : Below (ZP271 w L cs).heap.size (ZP271 w L cs) W) (hl : SlR (fun b => (ZP271 w L cs).heap.size ≤ b ∧ b < W.heap.size) W 1 lv ((codesP f.type).map codeCells)) =>
  palone_any f hf n A cs W (hT.below hA (bW2.trans (hb.mono bW2.size))) (fun b hb' => Nat.lt_of_lt_of_le (Nat.lt_of_lt_of_le (hA b hb') bW2.size) hb.size) (G.below (bW2.trans (hb.mono bW2.size))) _ lv hl (fun b hb' => hb'.2)
 obtain ⟨R, hRR⟩ : ∃ R, right12 f subs = R := ⟨_, rfl⟩
 rw [hRR]
 unfold right12 at hRR
 rw [hn, own_zero] at hRR
 have hne := ok_ne f.type
 generalize aloneD f n = O at hRR hAl
 generalize okP f.type = E at hRR hF hne
 generalize (codesP f.type).map codeCells = CL at hF hAl
 have HI := Lib.hid hi
 have HN := Lib.hid hn
 clear cv hi hn hT hcs h1 h2 h3 h4 hL hp hz l5 hlen hg0 hone c2'
 cases E with
 | false =>
  rw [if_neg (show ¬ (false = true) by decide)] at hRR
  rw [if_neg (show ¬ (110 : Int) = 0 by decide)] at hRR
  subst hRR
  clear hAl
  go_enter Tryz.func18, Tryz.ntmps18
  go_wp2_with (first
   | (with_reducible refine wpList_load_mid rfl 40 (.tmp 10) rfl w.heap.size 3 rfl cs _ hran Tryz.underlying40 rfl HI.out ?_)
   | (with_reducible refine wpList_store_newk rfl 40 (.tmp 3) (.tmp 11) rfl (w.heap.size + 1) ZP270 cs.toArray HK.out rfl rfl HIA.out HCZA.out HONEA.out ?_)
   | (go_at_call 36; with_reducible refine hF.mono ?_; rintro e wF ⟨lv, rfl, hlF, hcF⟩; have hbF := bW2.trans (hcF.mono bW2.size); have x0F := (hcF.cell (p := ⟨w.heap.size + 1, 0, none⟩) hlt2).trans x0; have x1F := (hcF.cell (p := ⟨w.heap.size + 1, 1, none⟩) hlt2).trans x1; have x21F := (hcF.cell (p := ⟨w.heap.size + 1, 21, none⟩) hlt2).trans x21; have hrF := range_below hrN hcF hlt2; have hltF := Nat.lt_of_lt_of_le hlt2 hcF.size; dsimp only)
   | (with_reducible refine wpList_load_mid rfl 40 (.tmp 3) rfl (w.heap.size + 1) 0 rfl cs _ hrF Tryz.underlying40 rfl HI.out ?_)
   | (go_at_call 37; with_reducible refine (hAl wF lv hcF hlF).mono ?_; rintro e wG ⟨rfl, hcG⟩; have hbG := hbF.trans (hcG.mono hbF.size); have x0G := (hcG.cell (p := ⟨w.heap.size + 1, 0, none⟩) hltF).trans x0F; have x1G := (hcG.cell (p := ⟨w.heap.size + 1, 1, none⟩) hltF).trans x1F; have x21G := (hcG.cell (p := ⟨w.heap.size + 1, 21, none⟩) hltF).trans x21F; have hltG := Nat.lt_of_lt_of_le hltF hcG.size; dsimp only)
   | fail)
  go_ret
  exact ⟨rfl, hbF⟩
 | true =>
  replace hne := hne rfl
  rw [if_pos (show true = true from rfl)] at hRR
  by_cases o1 : O = 0
  case neg =>
   rw [if_neg o1, if_neg o1] at hRR
   subst hRR
   have o2 : (O != 0) = true := by simpa using o1
   go_enter Tryz.func18, Tryz.ntmps18
   go_wp2_with (first
   | (with_reducible refine wpList_load_mid rfl 40 (.tmp 10) rfl w.heap.size 3 rfl cs _ hran Tryz.underlying40 rfl HI.out ?_)
   | (with_reducible refine wpList_store_newk rfl 40 (.tmp 3) (.tmp 11) rfl (w.heap.size + 1) ZP270 cs.toArray HK.out rfl rfl HIA.out HCZA.out HONEA.out ?_)
   | (go_at_call 36; with_reducible refine hF.mono ?_; rintro e wF ⟨lv, rfl, hlF, hcF⟩; have hbF := bW2.trans (hcF.mono bW2.size); have x0F := (hcF.cell (p := ⟨w.heap.size + 1, 0, none⟩) hlt2).trans x0; have x1F := (hcF.cell (p := ⟨w.heap.size + 1, 1, none⟩) hlt2).trans x1; have x21F := (hcF.cell (p := ⟨w.heap.size + 1, 21, none⟩) hlt2).trans x21; have hrF := range_below hrN hcF hlt2; have hltF := Nat.lt_of_lt_of_le hlt2 hcF.size; dsimp only)
   | (with_reducible refine wpList_load_mid rfl 40 (.tmp 3) rfl (w.heap.size + 1) 0 rfl cs _ hrF Tryz.underlying40 rfl HI.out ?_)
   | (go_at_call 37; with_reducible refine (hAl wF lv hcF hlF).mono ?_; rintro e wG ⟨rfl, hcG⟩; have hbG := hbF.trans (hcG.mono hbF.size); have x0G := (hcG.cell (p := ⟨w.heap.size + 1, 0, none⟩) hltF).trans x0F; have x1G := (hcG.cell (p := ⟨w.heap.size + 1, 1, none⟩) hltF).trans x1F; have x21G := (hcG.cell (p := ⟨w.heap.size + 1, 21, none⟩) hltF).trans x21F; have hltG := Nat.lt_of_lt_of_le hltF hcG.size; dsimp only)
   | fail)
   go_ret
   exact ⟨rfl, hbG⟩
  rw [if_pos o1] at hRR
  subst o1
  by_cases c1 : f.code = 0
  case neg =>
   have c1' : (f.code != 0) = true := by simpa using c1
   rw [if_pos c1'] at hRR
   rw [if_neg (show ¬ (1 : Int) = 0 by decide)] at hRR
   subst hRR
   go_enter Tryz.func18, Tryz.ntmps18
   go_wp2_with (first
   | (with_reducible refine wpList_load_mid rfl 40 (.tmp 10) rfl w.heap.size 3 rfl cs _ hran Tryz.underlying40 rfl HI.out ?_)
   | (with_reducible refine wpList_store_newk rfl 40 (.tmp 3) (.tmp 11) rfl (w.heap.size + 1) ZP270 cs.toArray HK.out rfl rfl HIA.out HCZA.out HONEA.out ?_)
   | (go_at_call 36; with_reducible refine hF.mono ?_; rintro e wF ⟨lv, rfl, hlF, hcF⟩; have hbF := bW2.trans (hcF.mono bW2.size); have x0F := (hcF.cell (p := ⟨w.heap.size + 1, 0, none⟩) hlt2).trans x0; have x1F := (hcF.cell (p := ⟨w.heap.size + 1, 1, none⟩) hlt2).trans x1; have x21F := (hcF.cell (p := ⟨w.heap.size + 1, 21, none⟩) hlt2).trans x21; have hrF := range_below hrN hcF hlt2; have hltF := Nat.lt_of_lt_of_le hlt2 hcF.size; dsimp only)
   | (with_reducible refine wpList_load_mid rfl 40 (.tmp 3) rfl (w.heap.size + 1) 0 rfl cs _ hrF Tryz.underlying40 rfl HI.out ?_)
   | (go_at_call 37; with_reducible refine (hAl wF lv hcF hlF).mono ?_; rintro e wG ⟨rfl, hcG⟩; have hbG := hbF.trans (hcG.mono hbF.size); have x0G := (hcG.cell (p := ⟨w.heap.size + 1, 0, none⟩) hltF).trans x0F; have x1G := (hcG.cell (p := ⟨w.heap.size + 1, 1, none⟩) hltF).trans x1F; have x21G := (hcG.cell (p := ⟨w.heap.size + 1, 21, none⟩) hltF).trans x21F; have hltG := Nat.lt_of_lt_of_le hltF hcG.size; dsimp only)
   | fail)
   go_ret
   exact ⟨rfl, hbG⟩
  have c1' : (f.code != 0) = false := by simp [c1]
  rw [c1', if_neg (show ¬ (false = true) by decide), if_pos rfl] at hRR
  by_cases g1 : 1024 < n
  case pos =>
   rw [if_pos g1] at hRR
   subst hRR
   have g1z : (1024 : Int) < n := by omega
   go_enter Tryz.func18, Tryz.ntmps18
   go_wp2_with (first
   | (with_reducible refine wpList_load_mid rfl 40 (.tmp 10) rfl w.heap.size 3 rfl cs _ hran Tryz.underlying40 rfl HI.out ?_)
   | (with_reducible refine wpList_store_newk rfl 40 (.tmp 3) (.tmp 11) rfl (w.heap.size + 1) ZP270 cs.toArray HK.out rfl rfl HIA.out HCZA.out HONEA.out ?_)
   | (go_at_call 36; with_reducible refine hF.mono ?_; rintro e wF ⟨lv, rfl, hlF, hcF⟩; have hbF := bW2.trans (hcF.mono bW2.size); have x0F := (hcF.cell (p := ⟨w.heap.size + 1, 0, none⟩) hlt2).trans x0; have x1F := (hcF.cell (p := ⟨w.heap.size + 1, 1, none⟩) hlt2).trans x1; have x21F := (hcF.cell (p := ⟨w.heap.size + 1, 21, none⟩) hlt2).trans x21; have hrF := range_below hrN hcF hlt2; have hltF := Nat.lt_of_lt_of_le hlt2 hcF.size; dsimp only)
   | (with_reducible refine wpList_load_mid rfl 40 (.tmp 3) rfl (w.heap.size + 1) 0 rfl cs _ hrF Tryz.underlying40 rfl HI.out ?_)
   | (go_at_call 37; with_reducible refine (hAl wF lv hcF hlF).mono ?_; rintro e wG ⟨rfl, hcG⟩; have hbG := hbF.trans (hcG.mono hbF.size); have x0G := (hcG.cell (p := ⟨w.heap.size + 1, 0, none⟩) hltF).trans x0F; have x1G := (hcG.cell (p := ⟨w.heap.size + 1, 1, none⟩) hltF).trans x1F; have x21G := (hcG.cell (p := ⟨w.heap.size + 1, 21, none⟩) hltF).trans x21F; have hltG := Nat.lt_of_lt_of_le hltF hcG.size; dsimp only)
   | fail)
   go_ret
   exact ⟨rfl, hbG⟩
  rw [if_neg g1] at hRR
  have g1z : ¬ (1024 : Int) < n := by omega
  have HR := Lib.hid hRR
  clear hRR
  go_enter Tryz.func18, Tryz.ntmps18
  go_wp2_with (first
   | (with_reducible refine wpList_load_mid rfl 40 (.tmp 10) rfl w.heap.size 3 rfl cs _ hran Tryz.underlying40 rfl HI.out ?_)
   | (with_reducible refine wpList_store_newk rfl 40 (.tmp 3) (.tmp 11) rfl (w.heap.size + 1) ZP270 cs.toArray HK.out rfl rfl HIA.out HCZA.out HONEA.out ?_)
   | (go_at_call 36; with_reducible refine hF.mono ?_; rintro e wF ⟨lv, rfl, hlF, hcF⟩; have hbF := bW2.trans (hcF.mono bW2.size); have x0F := (hcF.cell (p := ⟨w.heap.size + 1, 0, none⟩) hlt2).trans x0; have x1F := (hcF.cell (p := ⟨w.heap.size + 1, 1, none⟩) hlt2).trans x1; have x21F := (hcF.cell (p := ⟨w.heap.size + 1, 21, none⟩) hlt2).trans x21; have hrF := range_below hrN hcF hlt2; have hltF := Nat.lt_of_lt_of_le hlt2 hcF.size; dsimp only)
   | (with_reducible refine wpList_load_mid rfl 40 (.tmp 3) rfl (w.heap.size + 1) 0 rfl cs _ hrF Tryz.underlying40 rfl HI.out ?_)
   | (go_at_call 37; with_reducible refine (hAl wF lv hcF hlF).mono ?_; rintro e wG ⟨rfl, hcG⟩; have hbG := hbF.trans (hcG.mono hbF.size); have x0G := (hcG.cell (p := ⟨w.heap.size + 1, 0, none⟩) hltF).trans x0F; have x1G := (hcG.cell (p := ⟨w.heap.size + 1, 1, none⟩) hltF).trans x1F; have x21G := (hcG.cell (p := ⟨w.heap.size + 1, 21, none⟩) hltF).trans x21F; have hltG := Nat.lt_of_lt_of_le hltF hcG.size; dsimp only)
   | fail)
  have bGh := Lib.hid hbG
  clear bW bW2 hbF hcF hcG hbG x0 x1 x21 x0F x1F x21F c2 hF hAl hran hrN hrF hlt2 hltF hlF
  go_loopw [2, 8, 9, 47] (fun _ _ _ i W => ∃ k : Nat, k ≤ n ∧ i = .int .i64 k ∧ RowKit.Hid (subs12 f.type (subs.drop k) = R) ∧ RowKit.Hid (Below wG.heap.size wG W)) (fun _ _ _ i _ => n - (intOf i).toNat)
  case atStart => exact ⟨0, Nat.zero_le _, rfl, HR, Lib.hid (Below.refl _ _)⟩
  case round =>
   obtain ⟨k, hk, rfl, HP, hb0⟩ := hrel
   have hb := hb0.out
   clear HR
   have x0r := (hb.cell (p := ⟨w.heap.size + 1, 0, none⟩) hltG).trans x0G
   have bw := bGh.out.trans (hb.mono bGh.out.size)
   by_cases hlt : k < n
   ·have hkl : k < subs.length := by rw [HN.out]; exact hlt
    obtain ⟨⟨f', s'⟩, ht⟩ : ∃ t, subs[k]? = some t := ⟨_, List.getElem?_eq_getElem hkl⟩
    obtain ⟨r, hr, hRr⟩ := h6.get ht
    have hok' := hso.get ht
    rw [ResOk] at hok'
    have hTr := hRr.own
    have hlr : r.length = 22 := hTr.len
    obtain ⟨b1, o1', nn1, qq1, e1, hb1, r1⟩ := h5.row hr
    cases e1
    have r1 := range_below r1 bw (hA b1 hb1)
    have hp := HP.out
    rw [List.drop_eq_getElem_cons hkl, show subs[k] = .mk f' s' from (List.getElem?_eq_some_iff.1 ht).2] at hp
    unfold subs12 at hp
    rw [← part_own f' s'.length f.type hne] at hp
    have hi16 : (Tryz.prog.info? 40).map (·.size) = some r.length := by rw [hlr]; kernel_rfl
    have HI2 := Lib.hid hi16
    have HI3 : RowKit.Hid ((Tryz.prog.info? 40).map (·.size) = some r.toArray.size) := Lib.hid (by rw [List.size_toArray]; exact hi16)
    have hcz : (ZP270 : Array Value).size = r.toArray.size := by rw [show r.toArray.size = 22 by rw [List.size_toArray, hlr]]; rfl
    have HCZ := Lib.hid hcz
    have HONE : RowKit.Hid (r.toArray.all (·.oneCell') = true) := Lib.hid (all_oneCell_toArray (by
     obtain ⟨vd, va, vi, vp, vs, hcs, h1, h2, h3, h4, rows, h5, _⟩ := hTr.ex
     rw [hcs]; unfold ResF.cells
     obtain ⟨_, _, rfl⟩ := h1.len'; obtain ⟨_, _, rfl⟩ := h2.len'; obtain ⟨_, _, rfl⟩ := h3.len'; obtain ⟨_, _, rfl⟩ := h4.len'; obtain ⟨_, _, rfl⟩ := h5.len'
     intro u hu; simp only [List.mem_cons, List.not_mem_nil, or_false] at hu
     rcases hu with rfl | rfl | rfl | rfl | rfl | rfl | rfl | rfl | rfl | rfl | rfl | rfl | rfl | rfl | rfl | rfl | rfl | rfl | rfl | rfl | rfl | rfl <;> rfl))
    have hbA : Below wr.heap.size wr (wr.alloc (.cells r.toArray 40)) := (Below.refl _ _).alloc (Nat.le_refl _) _
    have bwA := bw.trans (hbA.mono bw.size)
    have hrX := new_range wr r 40
    have x0A : (wr.alloc (.cells r.toArray 40)).cell? ⟨w.heap.size + 1, 0, none⟩ = some (.int .i32 f.type) := cell_stays hbA x0r
    have hPt := ppart_any f' hok'.1 s'.length f.type A r (wr.alloc (.cells r.toArray 40)) (hTr.below hA bwA) (fun b hb' => Nat.lt_of_lt_of_le (hA b hb') bwA.size) (G.below bwA)
    generalize partPD f' s'.length f.type = O at hPt hp
    have HBA := Lib.hid (hb.trans (hbA.mono hb.size))
    have BWA := Lib.hid bwA
    clear HP hTr hRr hr hi16 hlr hcz hbA bwA hb bw
    by_cases o1 : O = 0
    ·rw [if_pos o1] at hp
     subst o1
     have HX := Lib.hid hp
     clear hp
     go_wp2_with (first
      | (with_reducible refine wpList_load_mid rfl 40 (.tmp 49) rfl b1 (o1' + k * 22) rfl r _ r1 Tryz.underlying40 rfl HI2.out ?_)
      | (with_reducible refine wpList_store_new rfl 40 (.tmp 8) (.tmp 50) rfl ZP270 r.toArray rfl rfl HI3.out HCZ.out HONE.out ?_)
      | (with_reducible refine wpList_load_mid rfl 40 (.tmp 8) rfl wr.heap.size 0 rfl r _ hrX Tryz.underlying40 rfl HI2.out ?_)
      | (go_at_call 38; with_reducible refine hPt.mono ?_; rintro e W ⟨rfl, hcW⟩; have hbW := Lib.hid (HBA.out.trans (hcW.mono HBA.out.size)); dsimp only)
      | fail)
     go_roundw
     case rel => exact ⟨k + 1, by omega, by go_num, HX, hbW⟩
     case measure => simp [intOf]; omega
    ·rw [if_neg o1] at hp
     subst hp
     have o2 : (O != 0) = true := by simpa using o1
     go_wp2_with (first
      | (with_reducible refine wpList_load_mid rfl 40 (.tmp 49) rfl b1 (o1' + k * 22) rfl r _ r1 Tryz.underlying40 rfl HI2.out ?_)
      | (with_reducible refine wpList_store_new rfl 40 (.tmp 8) (.tmp 50) rfl ZP270 r.toArray rfl rfl HI3.out HCZ.out HONE.out ?_)
      | (with_reducible refine wpList_load_mid rfl 40 (.tmp 8) rfl wr.heap.size 0 rfl r _ hrX Tryz.underlying40 rfl HI2.out ?_)
      | (go_at_call 38; with_reducible refine hPt.mono ?_; rintro e W ⟨rfl, hcW⟩; have hbW := BWA.out.trans (hcW.mono BWA.out.size); dsimp only)
      | fail)
     go_ret
     exact ⟨rfl, hbW⟩
   ·obtain rfl : n = k := by omega
    have hp := HP.out
    rw [List.drop_of_length_le (by rw [HN.out]; exact Nat.le_refl _)] at hp
    unfold subs12 at hp
    subst hp
    clear HP
    go_wp2
    go_ret
    exact ⟨rfl, bw⟩
abbrev ZF30 (x0 : ResF) (x1 : Option Addr) (x2 x3 : Nat) (x4 : Option Addr) (x5 x6 : Nat) (x7 : Option Addr) (x8 x9 : Nat) (x10 : Option Addr) (x11 x12 : Nat) (x13 : Option Addr) (x14 x15 : Nat) : Obj := (.cells #[.int .i32 x0.type, .int .i32 x0.code, .string x0.path, .int .i64 x0.czxid, .int .i64 x0.mzxid, .int .i64 x0.ctime, .int .i64 x0.mtime, .int .i32 x0.version, .int .i32 x0.cversion, .int .i32 x0.aversion, .int .i64 x0.owner, .int .i32 x0.dlen, .int .i32 x0.nkids, .int .i64 x0.pzxid, .slice x1 x2 x3, .slice x4 x5 x6, .slice x7 x8 x9, .int .i32 x0.count, .int .i64 x0.sid, .int .i32 x0.timeout, .slice x10 x11 x12, .slice x13 x14 x15] 40)
theorem sameres_step (N : Nat) (ih : ∀ (t : ResD) (A B : Nat → Prop) (cs ds : List Value) (w : World), SizeOf.sizeOf t < N → ResOk t → ResR A w t cs → ResR B w t ds → (∀ b, A b → b < w.heap.size) → (∀ b, B b → b < w.heap.size) →
   Calls Tryz.prog 45 #[.agg cs.toArray, .agg ds.toArray] w fun e w' => e = .returned (.bool true) ∧ Below w.heap.size w w')
  (f : ResF) (subs : List ResD) (hN : SizeOf.sizeOf (ResD.mk f subs) < N + 1) (hok : ResOk (.mk f subs)) (A B : Nat → Prop) (v1 v2 v3 v4 v5 u1 u2 u3 u4 u5 : Value) (rows rows' : List (List Value)) (w : World) (hA : ∀ b, A b → b < w.heap.size) (hB : ∀ b, B b → b < w.heap.size)
  (h1 : SlR A w 1 v1 (f.data.map byteCells)) (k1 : SlR B w 1 u1 (f.data.map byteCells)) (h2 : SlR A w 3 v2 (f.acl.map AclD.cells)) (k2 : SlR B w 3 u2 (f.acl.map AclD.cells)) (h3 : SlR A w 1 v3 (f.names.map strCells)) (k3 : SlR B w 1 u3 (f.names.map strCells)) (h4 : SlR A w 2 v4 (f.ids.map IdD.cells)) (k4 : SlR B w 2 u4 (f.ids.map IdD.cells)) (h5 : SlR A w 22 v5 rows) (k5 : SlR B w 22 u5 rows') (h6 : RessR A w subs rows) (k6 : RessR B w subs rows') :
  Calls Tryz.prog 45 #[.agg (f.cells v1 v2 v3 v4 v5).toArray, .agg (f.cells u1 u2 u3 u4 u5).toArray] w fun e w' => e = .returned (.bool true) ∧ Below w.heap.size w w' := by
 rw [ResOk] at hok
 obtain ⟨hf, hsl, hso⟩ := hok
 have r5 : rows.length = subs.length := h6.len
 have r6 : rows'.length = subs.length := k6.len
 obtain ⟨n1, hn1⟩ : ∃ n, f.data.length = n := ⟨_, rfl⟩
 have m1 : n1 ≤ 1048576 := by rw [← hn1]; exact hf.data
 obtain ⟨s1, p1, rfl⟩ := h1.len'
 obtain ⟨t1, q1, rfl⟩ := k1.len'
 rw [List.length_map, hn1] at h1 k1 ⊢
 replace hn1 := Lib.hid hn1
 obtain ⟨n2, hn2⟩ : ∃ n, f.acl.length = n := ⟨_, rfl⟩
 have m2 : n2 ≤ 1048576 := by rw [← hn2]; exact hf.acl
 obtain ⟨s2, p2, rfl⟩ := h2.len'
 obtain ⟨t2, q2, rfl⟩ := k2.len'
 rw [List.length_map, hn2] at h2 k2 ⊢
 replace hn2 := Lib.hid hn2
 obtain ⟨n3, hn3⟩ : ∃ n, f.names.length = n := ⟨_, rfl⟩
 have m3 : n3 ≤ 1048576 := by rw [← hn3]; exact hf.names
 obtain ⟨s3, p3, rfl⟩ := h3.len'
 obtain ⟨t3, q3, rfl⟩ := k3.len'
 rw [List.length_map, hn3] at h3 k3 ⊢
 replace hn3 := Lib.hid hn3
 obtain ⟨n4, hn4⟩ : ∃ n, f.ids.length = n := ⟨_, rfl⟩
 have m4 : n4 ≤ 1048576 := by rw [← hn4]; exact hf.ids
 obtain ⟨s4, p4, rfl⟩ := h4.len'
 obtain ⟨t4, q4, rfl⟩ := k4.len'
 rw [List.length_map, hn4] at h4 k4 ⊢
 replace hn4 := Lib.hid hn4
 obtain ⟨n5, hn5⟩ : ∃ n, subs.length = n := ⟨_, rfl⟩
 have m5 : n5 ≤ 1048576 := by rw [← hn5]; exact hsl
 obtain ⟨s5, p5, rfl⟩ := h5.len'
 obtain ⟨t5, q5, rfl⟩ := k5.len'
 rw [r5, hn5] at h5 ⊢
 rw [r6, hn5] at k5 ⊢
 rw [hn5] at r5 r6
 replace hn5 := Lib.hid hn5
 replace r5 := Lib.hid r5
 replace r6 := Lib.hid r6
 have g1 := box_at w (ZF30 f s1 n1 p1 s2 n2 p2 s3 n3 p3 s4 n4 p4 s5 n5 p5) (.cells #[.int .i32 f.type, .int .i32 f.code, .string f.path, .int .i64 f.czxid, .int .i64 f.mzxid, .int .i64 f.ctime, .int .i64 f.mtime, .int .i32 f.version, .int .i32 f.cversion, .int .i32 f.aversion, .int .i64 f.owner, .int .i32 f.dlen, .int .i32 f.nkids, .int .i64 f.pzxid, .slice t1 n1 q1, .slice t2 n2 q2, .slice t3 n3 q3, .int .i32 f.count, .int .i64 f.sid, .int .i32 f.timeout, .slice t4 n4 q4, .slice t5 n5 q5] 40)
 have g2 := heap_alloc_new (w.alloc (ZF30 f s1 n1 p1 s2 n2 p2 s3 n3 p3 s4 n4 p4 s5 n5 p5)) (.cells #[.int .i32 f.type, .int .i32 f.code, .string f.path, .int .i64 f.czxid, .int .i64 f.mzxid, .int .i64 f.ctime, .int .i64 f.mtime, .int .i32 f.version, .int .i32 f.cversion, .int .i32 f.aversion, .int .i64 f.owner, .int .i32 f.dlen, .int .i32 f.nkids, .int .i64 f.pzxid, .slice t1 n1 q1, .slice t2 n2 q2, .slice t3 n3 q3, .int .i32 f.count, .int .i64 f.sid, .int .i32 f.timeout, .slice t4 n4 q4, .slice t5 n5 q5] 40)
 rw [World.size_alloc] at g2
 have bb : Below w.heap.size w ((w.alloc (ZF30 f s1 n1 p1 s2 n2 p2 s3 n3 p3 s4 n4 p4 s5 n5 p5)).alloc (.cells #[.int .i32 f.type, .int .i32 f.code, .string f.path, .int .i64 f.czxid, .int .i64 f.mzxid, .int .i64 f.ctime, .int .i64 f.mtime, .int .i32 f.version, .int .i32 f.cversion, .int .i32 f.aversion, .int .i64 f.owner, .int .i32 f.dlen, .int .i32 f.nkids, .int .i64 f.pzxid, .slice t1 n1 q1, .slice t2 n2 q2, .slice t3 n3 q3, .int .i32 f.count, .int .i64 f.sid, .int .i32 f.timeout, .slice t4 n4 q4, .slice t5 n5 q5] 40)) := ((Below.refl w.heap.size w).alloc (Nat.le_refl _) _).alloc (by simp) _
 have zz : ((w.alloc (ZF30 f s1 n1 p1 s2 n2 p2 s3 n3 p3 s4 n4 p4 s5 n5 p5)).alloc (.cells #[.int .i32 f.type, .int .i32 f.code, .string f.path, .int .i64 f.czxid, .int .i64 f.mzxid, .int .i64 f.ctime, .int .i64 f.mtime, .int .i32 f.version, .int .i32 f.cversion, .int .i32 f.aversion, .int .i64 f.owner, .int .i32 f.dlen, .int .i32 f.nkids, .int .i64 f.pzxid, .slice t1 n1 q1, .slice t2 n2 q2, .slice t3 n3 q3, .int .i32 f.count, .int .i64 f.sid, .int .i32 f.timeout, .slice t4 n4 q4, .slice t5 n5 q5] 40)).heap.size = w.heap.size + 1 + 1 := by simp
 obtain ⟨S, hS⟩ : ∃ S, strOfNums (f.data.map fun b => (b.toNat : Int)) = S := ⟨_, rfl⟩
 have cv1 := conv_bytes (h1.below hA bb)
 have cv2 := conv_bytes (k1.below hB bb)
 rw [hS] at cv1 cv2
 clear hS
 have l2 := h2.below hA bb
 have l2' := k2.below hB bb
 have hAz : ∀ b, A b → b < ((w.alloc (ZF30 f s1 n1 p1 s2 n2 p2 s3 n3 p3 s4 n4 p4 s5 n5 p5)).alloc (.cells #[.int .i32 f.type, .int .i32 f.code, .string f.path, .int .i64 f.czxid, .int .i64 f.mzxid, .int .i64 f.ctime, .int .i64 f.mtime, .int .i32 f.version, .int .i32 f.cversion, .int .i32 f.aversion, .int .i64 f.owner, .int .i32 f.dlen, .int .i32 f.nkids, .int .i64 f.pzxid, .slice t1 n1 q1, .slice t2 n2 q2, .slice t3 n3 q3, .int .i32 f.count, .int .i64 f.sid, .int .i32 f.timeout, .slice t4 n4 q4, .slice t5 n5 q5] 40)).heap.size := fun b hb => by have := hA b hb; omega
 have hBz : ∀ b, B b → b < ((w.alloc (ZF30 f s1 n1 p1 s2 n2 p2 s3 n3 p3 s4 n4 p4 s5 n5 p5)).alloc (.cells #[.int .i32 f.type, .int .i32 f.code, .string f.path, .int .i64 f.czxid, .int .i64 f.mzxid, .int .i64 f.ctime, .int .i64 f.mtime, .int .i32 f.version, .int .i32 f.cversion, .int .i32 f.aversion, .int .i64 f.owner, .int .i32 f.dlen, .int .i32 f.nkids, .int .i64 f.pzxid, .slice t1 n1 q1, .slice t2 n2 q2, .slice t3 n3 q3, .int .i32 f.count, .int .i64 f.sid, .int .i32 f.timeout, .slice t4 n4 q4, .slice t5 n5 q5] 40)).heap.size := fun b hb => by have := hB b hb; omega
 have hqq := fun w => (neq_stat ⟨f.czxid, f.mzxid, f.ctime, f.mtime, f.version, f.cversion, f.aversion, f.owner, f.dlen, f.nkids, f.pzxid⟩ ⟨f.czxid, f.mzxid, f.ctime, f.mtime, f.version, f.cversion, f.aversion, f.owner, f.dlen, f.nkids, f.pzxid⟩ w).trans (by rw [eqStatD_self])
 unfold StatD.cells at hqq
 have call81 := acls06_same f.acl A B _ _ _ l2 l2' hAz hBz (by rw [hn2.out]; exact m2)
 unfold ResF.cells
 go_enter Tryz.func45, Tryz.ntmps45
 go_wp2_with (first
  | (go_at_call 82
     refine call81.mono ?_
     rintro e w0 ⟨rfl, hb0⟩
     have ea0 := st_at ((hb0.block w.heap.size (by omega)).trans g1) (k := 0) rfl
     have eb0 := st_at ((hb0.block (w.heap.size + 1) (by omega)).trans g2) (k := 0) rfl
     have ea1 := st_at ((hb0.block w.heap.size (by omega)).trans g1) (k := 1) rfl
     have eb1 := st_at ((hb0.block (w.heap.size + 1) (by omega)).trans g2) (k := 1) rfl
     have ea2 := st_at ((hb0.block w.heap.size (by omega)).trans g1) (k := 2) rfl
     have eb2 := st_at ((hb0.block (w.heap.size + 1) (by omega)).trans g2) (k := 2) rfl
     have ea3 := st_at ((hb0.block w.heap.size (by omega)).trans g1) (k := 3) rfl
     have eb3 := st_at ((hb0.block (w.heap.size + 1) (by omega)).trans g2) (k := 3) rfl
     have ea4 := st_at ((hb0.block w.heap.size (by omega)).trans g1) (k := 4) rfl
     have eb4 := st_at ((hb0.block (w.heap.size + 1) (by omega)).trans g2) (k := 4) rfl
     have ea5 := st_at ((hb0.block w.heap.size (by omega)).trans g1) (k := 5) rfl
     have eb5 := st_at ((hb0.block (w.heap.size + 1) (by omega)).trans g2) (k := 5) rfl
     have ea6 := st_at ((hb0.block w.heap.size (by omega)).trans g1) (k := 6) rfl
     have eb6 := st_at ((hb0.block (w.heap.size + 1) (by omega)).trans g2) (k := 6) rfl
     have ea7 := st_at ((hb0.block w.heap.size (by omega)).trans g1) (k := 7) rfl
     have eb7 := st_at ((hb0.block (w.heap.size + 1) (by omega)).trans g2) (k := 7) rfl
     have ea8 := st_at ((hb0.block w.heap.size (by omega)).trans g1) (k := 8) rfl
     have eb8 := st_at ((hb0.block (w.heap.size + 1) (by omega)).trans g2) (k := 8) rfl
     have ea9 := st_at ((hb0.block w.heap.size (by omega)).trans g1) (k := 9) rfl
     have eb9 := st_at ((hb0.block (w.heap.size + 1) (by omega)).trans g2) (k := 9) rfl
     have ea10 := st_at ((hb0.block w.heap.size (by omega)).trans g1) (k := 10) rfl
     have eb10 := st_at ((hb0.block (w.heap.size + 1) (by omega)).trans g2) (k := 10) rfl
     have ea11 := st_at ((hb0.block w.heap.size (by omega)).trans g1) (k := 11) rfl
     have eb11 := st_at ((hb0.block (w.heap.size + 1) (by omega)).trans g2) (k := 11) rfl
     have ea12 := st_at ((hb0.block w.heap.size (by omega)).trans g1) (k := 12) rfl
     have eb12 := st_at ((hb0.block (w.heap.size + 1) (by omega)).trans g2) (k := 12) rfl
     have ea13 := st_at ((hb0.block w.heap.size (by omega)).trans g1) (k := 13) rfl
     have eb13 := st_at ((hb0.block (w.heap.size + 1) (by omega)).trans g2) (k := 13) rfl
     have ea14 := st_at ((hb0.block w.heap.size (by omega)).trans g1) (k := 14) rfl
     have eb14 := st_at ((hb0.block (w.heap.size + 1) (by omega)).trans g2) (k := 14) rfl
     have ea15 := st_at ((hb0.block w.heap.size (by omega)).trans g1) (k := 15) rfl
     have eb15 := st_at ((hb0.block (w.heap.size + 1) (by omega)).trans g2) (k := 15) rfl
     have ea16 := st_at ((hb0.block w.heap.size (by omega)).trans g1) (k := 16) rfl
     have eb16 := st_at ((hb0.block (w.heap.size + 1) (by omega)).trans g2) (k := 16) rfl
     have ea17 := st_at ((hb0.block w.heap.size (by omega)).trans g1) (k := 17) rfl
     have eb17 := st_at ((hb0.block (w.heap.size + 1) (by omega)).trans g2) (k := 17) rfl
     have ea18 := st_at ((hb0.block w.heap.size (by omega)).trans g1) (k := 18) rfl
     have eb18 := st_at ((hb0.block (w.heap.size + 1) (by omega)).trans g2) (k := 18) rfl
     have ea19 := st_at ((hb0.block w.heap.size (by omega)).trans g1) (k := 19) rfl
     have eb19 := st_at ((hb0.block (w.heap.size + 1) (by omega)).trans g2) (k := 19) rfl
     have ea20 := st_at ((hb0.block w.heap.size (by omega)).trans g1) (k := 20) rfl
     have eb20 := st_at ((hb0.block (w.heap.size + 1) (by omega)).trans g2) (k := 20) rfl
     have ea21 := st_at ((hb0.block w.heap.size (by omega)).trans g1) (k := 21) rfl
     have eb21 := st_at ((hb0.block (w.heap.size + 1) (by omega)).trans g2) (k := 21) rfl
     have bb0 := bb.trans (hb0.mono (by omega))
     have call83 := sess_same f.ids f.sid f.timeout A B _ _ _ (h4.below hA bb0) (k4.below hB bb0) (fun b hb => Nat.lt_of_lt_of_le (hA b hb) bb0.size) (fun b hb => Nat.lt_of_lt_of_le (hB b hb) bb0.size) (by rw [hn4.out]; exact m4))
  | (go_at_call 83
     refine call83.mono ?_
     rintro e w1 ⟨rfl, hb01⟩
     have hb1 := hb0.trans (hb01.mono hb0.size)
     have x0 := st_at ((hb1.block w.heap.size (by omega)).trans g1) (k := 0) rfl
     have y0 := st_at ((hb1.block (w.heap.size + 1) (by omega)).trans g2) (k := 0) rfl
     have x1 := st_at ((hb1.block w.heap.size (by omega)).trans g1) (k := 1) rfl
     have y1 := st_at ((hb1.block (w.heap.size + 1) (by omega)).trans g2) (k := 1) rfl
     have x2 := st_at ((hb1.block w.heap.size (by omega)).trans g1) (k := 2) rfl
     have y2 := st_at ((hb1.block (w.heap.size + 1) (by omega)).trans g2) (k := 2) rfl
     have x3 := st_at ((hb1.block w.heap.size (by omega)).trans g1) (k := 3) rfl
     have y3 := st_at ((hb1.block (w.heap.size + 1) (by omega)).trans g2) (k := 3) rfl
     have x4 := st_at ((hb1.block w.heap.size (by omega)).trans g1) (k := 4) rfl
     have y4 := st_at ((hb1.block (w.heap.size + 1) (by omega)).trans g2) (k := 4) rfl
     have x5 := st_at ((hb1.block w.heap.size (by omega)).trans g1) (k := 5) rfl
     have y5 := st_at ((hb1.block (w.heap.size + 1) (by omega)).trans g2) (k := 5) rfl
     have x6 := st_at ((hb1.block w.heap.size (by omega)).trans g1) (k := 6) rfl
     have y6 := st_at ((hb1.block (w.heap.size + 1) (by omega)).trans g2) (k := 6) rfl
     have x7 := st_at ((hb1.block w.heap.size (by omega)).trans g1) (k := 7) rfl
     have y7 := st_at ((hb1.block (w.heap.size + 1) (by omega)).trans g2) (k := 7) rfl
     have x8 := st_at ((hb1.block w.heap.size (by omega)).trans g1) (k := 8) rfl
     have y8 := st_at ((hb1.block (w.heap.size + 1) (by omega)).trans g2) (k := 8) rfl
     have x9 := st_at ((hb1.block w.heap.size (by omega)).trans g1) (k := 9) rfl
     have y9 := st_at ((hb1.block (w.heap.size + 1) (by omega)).trans g2) (k := 9) rfl
     have x10 := st_at ((hb1.block w.heap.size (by omega)).trans g1) (k := 10) rfl
     have y10 := st_at ((hb1.block (w.heap.size + 1) (by omega)).trans g2) (k := 10) rfl
     have x11 := st_at ((hb1.block w.heap.size (by omega)).trans g1) (k := 11) rfl
     have y11 := st_at ((hb1.block (w.heap.size + 1) (by omega)).trans g2) (k := 11) rfl
     have x12 := st_at ((hb1.block w.heap.size (by omega)).trans g1) (k := 12) rfl
     have y12 := st_at ((hb1.block (w.heap.size + 1) (by omega)).trans g2) (k := 12) rfl
     have x13 := st_at ((hb1.block w.heap.size (by omega)).trans g1) (k := 13) rfl
     have y13 := st_at ((hb1.block (w.heap.size + 1) (by omega)).trans g2) (k := 13) rfl
     have x14 := st_at ((hb1.block w.heap.size (by omega)).trans g1) (k := 14) rfl
     have y14 := st_at ((hb1.block (w.heap.size + 1) (by omega)).trans g2) (k := 14) rfl
     have x15 := st_at ((hb1.block w.heap.size (by omega)).trans g1) (k := 15) rfl
     have y15 := st_at ((hb1.block (w.heap.size + 1) (by omega)).trans g2) (k := 15) rfl
     have x16 := st_at ((hb1.block w.heap.size (by omega)).trans g1) (k := 16) rfl
     have y16 := st_at ((hb1.block (w.heap.size + 1) (by omega)).trans g2) (k := 16) rfl
     have x17 := st_at ((hb1.block w.heap.size (by omega)).trans g1) (k := 17) rfl
     have y17 := st_at ((hb1.block (w.heap.size + 1) (by omega)).trans g2) (k := 17) rfl
     have x18 := st_at ((hb1.block w.heap.size (by omega)).trans g1) (k := 18) rfl
     have y18 := st_at ((hb1.block (w.heap.size + 1) (by omega)).trans g2) (k := 18) rfl
     have x19 := st_at ((hb1.block w.heap.size (by omega)).trans g1) (k := 19) rfl
     have y19 := st_at ((hb1.block (w.heap.size + 1) (by omega)).trans g2) (k := 19) rfl
     have x20 := st_at ((hb1.block w.heap.size (by omega)).trans g1) (k := 20) rfl
     have y20 := st_at ((hb1.block (w.heap.size + 1) (by omega)).trans g2) (k := 20) rfl
     have x21 := st_at ((hb1.block w.heap.size (by omega)).trans g1) (k := 21) rfl
     have y21 := st_at ((hb1.block (w.heap.size + 1) (by omega)).trans g2) (k := 21) rfl))
 have bb1 : Below w.heap.size w w1 := bb.trans (hb1.mono (by omega))
 have sz1 : w.heap.size + 2 ≤ w1.heap.size := by have := hb1.size; omega
 go_loopw [5] (fun i W => ∃ k : Nat, k ≤ n3 ∧ i = .int .i64 k ∧ Below w1.heap.size w1 W) (fun i _ => n3 - (intOf i).toNat)
 case atStart => exact ⟨0, Nat.zero_le _, rfl, Below.refl _ _⟩
 case round =>
  obtain ⟨k, hk, rfl, hb⟩ := hrel
  have hbw := bb1.trans (hb.mono (by omega))
  have X := (hb.cell (p := ⟨w.heap.size, 16, none⟩) (by show w.heap.size < _; omega)).trans x16
  have Y := (hb.cell (p := ⟨w.heap.size + 1, 16, none⟩) (by show w.heap.size + 1 < _; omega)).trans y16
  by_cases hlt : k < n3
  ·obtain ⟨x, hx⟩ : ∃ x, f.names[k]? = some x := ⟨_, List.getElem?_eq_getElem (by rw [hn3.out]; exact hlt)⟩
   have hr : (f.names.map strCells)[k]? = some (strCells x) := by rw [List.getElem?_map, hx]; rfl
   obtain ⟨b1, o1, nn1, qq1, e1, hb1', r1⟩ := h3.row hr
   obtain ⟨b2, o2, nn2, qq2, e2, hb2', r2⟩ := k3.row hr
   cases e1
   cases e2
   have r1 := range_below r1 hbw (hA b1 hb1')
   have r2 := range_below r2 hbw (hB b2 hb2')
   have c0 := r1 0 (.string x) rfl
   have d0 := r2 0 (.string x) rfl
   rw [Nat.add_zero] at c0 d0
   rw [Nat.mul_one] at c0 d0
   go_wp2
   go_quiet (fail)
   go_wp2
   go_roundw
   case rel => exact ⟨k + 1, by omega, rfl, below_drewN' hb _⟩
   case measure => simp [intOf]; omega
  ·go_wp2
   clear X Y hlt hk hbw
   go_loopw [6] (fun i W => ∃ k : Nat, k ≤ n5 ∧ i = .int .i64 k ∧ Below w1.heap.size w1 W) (fun i _ => n5 - (intOf i).toNat)
   case atStart => exact ⟨0, Nat.zero_le _, rfl, hb⟩
   case round =>
    obtain ⟨k, hk, rfl, hb⟩ := hrel
    have hbw := bb1.trans (hb.mono (by omega))
    have X := (hb.cell (p := ⟨w.heap.size, 21, none⟩) (by show w.heap.size < _; omega)).trans x21
    have Y := (hb.cell (p := ⟨w.heap.size + 1, 21, none⟩) (by show w.heap.size + 1 < _; omega)).trans y21
    by_cases hlt : k < n5
    ·obtain ⟨⟨f', subs'⟩, ht'⟩ : ∃ t, subs[k]? = some t := ⟨_, List.getElem?_eq_getElem (by rw [hn5.out]; exact hlt)⟩
     obtain ⟨r, hr, hR⟩ := h6.get ht'
     obtain ⟨r', hr', hR'⟩ := k6.get ht'
     obtain ⟨b1, o1, nn1, qq1, e1, hb1', a1⟩ := h5.row hr
     obtain ⟨b2, o2, nn2, qq2, e2, hb2', a2⟩ := k5.row hr'
     cases e1
     cases e2
     have a1 := range_below a1 hbw (hA b1 hb1')
     have a2 := range_below a2 hbw (hB b2 hb2')
     have hi1 : (Tryz.prog.info? 40).map (·.size) = some r.length := by rw [hR.length]; kernel_rfl
     have hi2 : (Tryz.prog.info? 40).map (·.size) = some r'.length := by rw [hR'.length]; kernel_rfl
     have hu := Tryz.underlying40
     have hok' := hso.get ht'
     have hsz' : SizeOf.sizeOf (ResD.mk f' subs') < N := by have := List.sizeOf_lt_of_mem (List.mem_of_getElem? ht'); simp at hN this ⊢; omega
     have hbs := hbw.size
     have hcall := ih (.mk f' subs') A B r r' wr.drew hsz' hok' (hR.kept (w' := wr.drew) fun b hb => hbw.block b (hA b hb)) (hR'.kept (w' := wr.drew) fun b hb => hbw.block b (hB b hb)) (fun b hb => Nat.lt_of_lt_of_le (hA b hb) hbs) (fun b hb => Nat.lt_of_lt_of_le (hB b hb) hbs)
     have hltz : (k : Int) < n5 := by omega
     clear x0 y0 x1 y1 x2 y2 x3 y3 x4 y4 x5 y5 x6 y6 x7 y7 x8 y8 x9 y9 x10 y10 x11 y11 x12 y12 x13 y13 x14 y14 x15 y15 x16 y16 x17 y17 x18 y18 x19 y19 x20 y20 x21 y21 ea0 eb0 ea1 eb1 ea2 eb2 ea3 eb3 ea4 eb4 ea5 eb5 ea6 eb6 ea7 eb7 ea8 eb8 ea9 eb9 ea10 eb10 ea11 eb11 ea12 eb12 ea13 eb13 ea14 eb14 ea15 eb15 ea16 eb16 ea17 eb17 ea18 eb18 ea19 eb19 ea20 eb20 ea21 eb21 bb0 call83 hb01 hb0 cv1 cv2 hqq call81 l2 l2' h1 h2 h3 h4 k1 k2 k3 k4 g1 g2 hn1 hn2 hn3 hn4 m1 m2 m3 m4 hf ih hR hR' hr hr' ht' hAz hBz zz bb hok' hsz'
     go_wp2
     refine wp_region_held_drew (S := fun w' => w'.cell? ⟨w.heap.size, 21, none⟩ = some (.slice (some ⟨b1, o1, none⟩) n5 p5) ∧ w'.cell? ⟨w.heap.size + 1, 21, none⟩ = some (.slice (some ⟨b2, o2, none⟩) n5 q5) ∧ w'.rangeAt b1 (o1 + k * 22) r ∧ w'.rangeAt b2 (o2 + k * 22) r') (by kernel_rfl) ⟨X, Y, a1, a2⟩ (fun hHeld => ?_)
     refine wpAnyH_take (i := 0) (v := .pointer (some ⟨w.heap.size, 21, none⟩)) rfl (by kernel_rfl) (by kernel_rfl) (by kernel_rfl) (fun _ _ _ h => h) (Or.inl ⟨by kernel_rfl, fun w hSw => by go_simp⟩) hHeld ?_
     simp only [Act.put, List.setIfInBounds_toArray]
     refine wpAnyH_take (i := 1) (v := .slice (some ⟨b1, o1, none⟩) n5 p5) rfl (by kernel_rfl) (by kernel_rfl) (by kernel_rfl) (fun _ _ _ h => h) (Or.inl ⟨by kernel_rfl, fun w hSw => by obtain ⟨hS1, hS2, _, _⟩ := hSw; go_simp⟩) hHeld ?_
     simp only [Act.put]
     refine wpAnyH_take (i := 2) (v := .int .i64 k) rfl (by kernel_rfl) (by kernel_rfl) (by kernel_rfl) (fun _ _ _ h => h) (Or.inl ⟨by kernel_rfl, fun w hSw => by go_simp⟩) hHeld ?_
     simp only [Act.put]
     refine wpAnyH_take (i := 3) (v := .pointer (some ⟨b1, o1 + k * 22, none⟩)) rfl (by kernel_rfl) (by kernel_rfl) (by kernel_rfl) (fun _ _ _ h => h) (Or.inl ⟨by kernel_rfl, fun w hSw => by go_simp⟩) hHeld ?_
     simp only [Act.put]
     refine wpAnyH_take (i := 4) (v := .agg r.toArray) rfl (by kernel_rfl) (by kernel_rfl) (by kernel_rfl) (fun _ _ _ h => h) (yieldsIf_load_mid (by kernel_rfl) 40 (.tmp 111) rfl b1 (o1 + k * 22) (by kernel_rfl) r _ (fun w hSw => hSw.2.2.1) hu rfl hi1) hHeld ?_
     simp only [Act.put]
     refine wpAnyH_take (i := 5) (v := .pointer (some ⟨w.heap.size + 1, 21, none⟩)) rfl (by kernel_rfl) (by kernel_rfl) (by kernel_rfl) (fun _ _ _ h => h) (Or.inl ⟨by kernel_rfl, fun w hSw => by go_simp⟩) hHeld ?_
     simp only [Act.put]
     refine wpAnyH_take (i := 6) (v := .slice (some ⟨b2, o2, none⟩) n5 q5) rfl (by kernel_rfl) (by kernel_rfl) (by kernel_rfl) (fun _ _ _ h => h) (Or.inl ⟨by kernel_rfl, fun w hSw => by obtain ⟨hS1, hS2, _, _⟩ := hSw; go_simp⟩) hHeld ?_
     simp only [Act.put]
     refine wpAnyH_take (i := 7) (v := .int .i64 k) rfl (by kernel_rfl) (by kernel_rfl) (by kernel_rfl) (fun _ _ _ h => h) (Or.inl ⟨by kernel_rfl, fun w hSw => by go_simp⟩) hHeld ?_
     simp only [Act.put]
     refine wpAnyH_take (i := 8) (v := .pointer (some ⟨b2, o2 + k * 22, none⟩)) rfl (by kernel_rfl) (by kernel_rfl) (by kernel_rfl) (fun _ _ _ h => h) (Or.inl ⟨by kernel_rfl, fun w hSw => by go_simp⟩) hHeld ?_
     simp only [Act.put]
     refine wpAnyH_take (i := 9) (v := .agg r'.toArray) rfl (by kernel_rfl) (by kernel_rfl) (by kernel_rfl) (fun _ _ _ h => h) (yieldsIf_load_mid (by kernel_rfl) 40 (.tmp 116) rfl b2 (o2 + k * 22) (by kernel_rfl) r' _ (fun w hSw => hSw.2.2.2) hu rfl hi2) hHeld ?_
     simp only [Act.put]
     refine wpAnyH_ready (rs := [10]) (by kernel_rfl) (by simp) ?_
     refine AllReadyH.cons (o := { dst := some 118, op := Op.call { callee := Callee.value (Operand.func 45), args := #[Operand.tmp 112, Operand.tmp 117], argTypes := #[40, 40] }, type := 4, pos := _, after := #[{ on := 4, ground := Ground.data }, { on := 9, ground := Ground.data }], guard := none }) rfl (fun K hK => ?_) AllReadyH.nil
     go_simp
     refine hcall.mono ?_
     rintro e w6 ⟨rfl, hb6d⟩
     have hb6 : Below wr.heap.size wr w6 := (Below.refl _ wr).drew.trans hb6d
     have hg1 : w.heap.size + 1 < wr.heap.size := by have := hb.size; omega
     refine hK.out _ _ ⟨(hb6.cell (p := ⟨w.heap.size, 21, none⟩) (by show w.heap.size < _; omega)).trans X, (hb6.cell (p := ⟨w.heap.size + 1, 21, none⟩) hg1).trans Y, range_below a1 hb6 (by have := hA b1 hb1'; omega), range_below a2 hb6 (by have := hB b2 hb2'; omega)⟩ (fun hHeld => ?_)
     clear hK K
     refine wpAnyH_take (i := 11) (oi := { dst := some 119, op := Op.unOp UnOp.not 4 (Operand.tmp 118), type := 4, pos := _, after := #[{ on := 10, ground := Ground.data }], guard := none }) (v := .bool false) rfl (by kernel_rfl) (by kernel_rfl) (by kernel_rfl) (fun _ _ _ h => h) (Or.inl ⟨by kernel_rfl, fun w hSw => by go_simp⟩) hHeld ?_
     simp only [Act.put, List.setIfInBounds_toArray, List.set_cons_zero, List.set_cons_succ]
     refine wpAnyH_done (by kernel_rfl) ?_ _
     have hk0 : (0 : Int) ≤ k := Int.natCast_nonneg _
     have hkb : (k : Int) + 1 ≤ 1048577 := by omega
     go_wp2
     go_roundw
     case rel => exact ⟨k + 1, by omega, rfl, hb.trans (hb6.mono hb.size)⟩
     case measure => simp [intOf]; omega
    ·have hltz : ¬ ((k : Int) < n5) := by omega
     go_wp2
     go_ret
     exact ⟨rfl, hbw⟩
theorem sameres_all : ∀ (N : Nat) (t : ResD) (A B : Nat → Prop) (cs ds : List Value) (w : World), SizeOf.sizeOf t < N → ResOk t → ResR A w t cs → ResR B w t ds → (∀ b, A b → b < w.heap.size) → (∀ b, B b → b < w.heap.size) →
  Calls Tryz.prog 45 #[.agg cs.toArray, .agg ds.toArray] w fun e w' => e = .returned (.bool true) ∧ Below w.heap.size w w'
 | 0, _, _, _, _, _, _, h, _, _, _, _, _ => absurd h (Nat.not_lt_zero _)
 | N + 1, .mk f subs, A, B, cs, ds, w, hN, hok, hR, hS, hA, hB => by
  rw [ResR] at hR hS
  obtain ⟨v1, v2, v3, v4, v5, rows, rfl, h1, h2, h3, h4, h5, h6⟩ := hR
  obtain ⟨u1, u2, u3, u4, u5, rows', rfl, k1, k2, k3, k4, k5, k6⟩ := hS
  exact sameres_step N (sameres_all N) f subs hN hok A B v1 v2 v3 v4 v5 u1 u2 u3 u4 u5 rows rows' w hA hB h1 k1 h2 k2 h3 k3 h4 k4 h5 k5 h6 k6
theorem sameres_any (t : ResD) (A B : Nat → Prop) (cs ds : List Value) (w : World) (hok : ResOk t) (hR : ResR A w t cs) (hS : ResR B w t ds) (hA : ∀ b, A b → b < w.heap.size) (hB : ∀ b, B b → b < w.heap.size) :
  Calls Tryz.prog 45 #[.agg cs.toArray, .agg ds.toArray] w fun e w' => e = .returned (.bool true) ∧ Below w.heap.size w w' :=
 sameres_all (SizeOf.sizeOf t + 1) t A B cs ds w (Nat.lt_succ_self _) hok hR hS hA hB
set_option maxHeartbeats 4000000
abbrev ZP280 (x0 : World) (x1 x2 : List Value) : World := ((x0.alloc (.cells x1.toArray 35)).alloc (.cells x2.toArray 35))
theorem samedelta_any (t : TxnD) (A B : Nat → Prop) (s x z ti : Int) (cs ds L M : List Value) (hL : L = [.int .i64 s, .int .i32 x, .int .i64 z, .int .i64 ti] ++ cs) (hM : M = [.int .i64 s, .int .i32 x, .int .i64 z, .int .i64 ti] ++ ds) (w : World) (hok : TxnOk t) (hR : TxnR A w t cs) (hS : TxnR B w t ds) (hA : ∀ b, A b → b < w.heap.size) (hB : ∀ b, B b → b < w.heap.size) :
  Calls Tryz.prog 21 #[.agg L.toArray, .agg M.toArray] w fun e w' => e = .returned (.bool true) ∧ Below w.heap.size w w' := by
 have bb0 : Below w.heap.size w (ZP280 w L M) := ((Below.refl w.heap.size w).alloc (Nat.le_refl _) _).alloc (by simp) _
 have g0 : (ZP280 w L M).heap[w.heap.size]? = some (.cells L.toArray 35 (0, 0)) := box_at w _ _
 have g1 : (ZP280 w L M).heap[w.heap.size + 1]? = some (.cells M.toArray 35 (0, 0)) := by
  have := heap_alloc_new (w.alloc (.cells L.toArray 35)) (.cells M.toArray 35)
  rwa [show (w.alloc (.cells L.toArray 35)).heap.size = w.heap.size + 1 by simp] at this
 have l1 : cs.length = 16 := hR.length
 have l2 : ds.length = 16 := hS.length
 have cv : ∀ (W : World) (b o : Nat), W.rangeAt b o L → W.rangeAt b (o + 4) cs := fun W b o h => range_right (xs := [.int .i64 s, .int .i32 x, .int .i64 z, .int .i64 ti]) (by rw [← hL]; exact h)
 have cw : ∀ (W : World) (b o : Nat), W.rangeAt b o M → W.rangeAt b (o + 4) ds := fun W b o h => range_right (xs := [.int .i64 s, .int .i32 x, .int .i64 z, .int .i64 ti]) (by rw [← hM]; exact h)
 have hr0 : (ZP280 w L M).rangeAt w.heap.size 4 cs := by
  have := st_range g0
  rw [List.toList_toArray] at this
  exact cv _ _ _ this
 have hr1 : (ZP280 w L M).rangeAt (w.heap.size + 1) 4 ds := by
  have := st_range g1
  rw [List.toList_toArray] at this
  exact cw _ _ _ this
 have p0 : (ZP280 w L M).cell? ⟨w.heap.size, 0, none⟩ = some (.int .i64 s) := st_at g0 (by rw [hL]; rfl)
 have q0 : (ZP280 w L M).cell? ⟨w.heap.size + 1, 0, none⟩ = some (.int .i64 s) := st_at g1 (by rw [hM]; rfl)
 have p1 : (ZP280 w L M).cell? ⟨w.heap.size, 1, none⟩ = some (.int .i32 x) := st_at g0 (by rw [hL]; rfl)
 have q1 : (ZP280 w L M).cell? ⟨w.heap.size + 1, 1, none⟩ = some (.int .i32 x) := st_at g1 (by rw [hM]; rfl)
 have p2 : (ZP280 w L M).cell? ⟨w.heap.size, 2, none⟩ = some (.int .i64 z) := st_at g0 (by rw [hL]; rfl)
 have q2 : (ZP280 w L M).cell? ⟨w.heap.size + 1, 2, none⟩ = some (.int .i64 z) := st_at g1 (by rw [hM]; rfl)
 have p3 : (ZP280 w L M).cell? ⟨w.heap.size, 3, none⟩ = some (.int .i64 ti) := st_at g0 (by rw [hL]; rfl)
 have q3 : (ZP280 w L M).cell? ⟨w.heap.size + 1, 3, none⟩ = some (.int .i64 ti) := st_at g1 (by rw [hM]; rfl)
 have hC := sametxn_any t A B cs ds (ZP280 w L M) hok (TxnR.kept (fun b hb => bb0.block b (hA b hb)) hR) (TxnR.kept (fun b hb => bb0.block b (hB b hb)) hS) (fun b hb => Nat.lt_of_lt_of_le (hA b hb) bb0.size) (fun b hb => Nat.lt_of_lt_of_le (hB b hb) bb0.size)
 have HI1 : RowKit.Hid ((Tryz.prog.info? 33).map (·.size) = some cs.length) := Lib.hid (by rw [l1]; kernel_rfl)
 have HI2 : RowKit.Hid ((Tryz.prog.info? 33).map (·.size) = some ds.length) := Lib.hid (by rw [l2]; kernel_rfl)
 have HB := Lib.hid bb0
 clear hL hM hR hS hA hB g0 g1 l1 l2 cv cw bb0 hok
 go_enter Tryz.func21, Tryz.ntmps21
 go_wp2_with (first
  | (with_reducible refine wpList_load_guarded (by with_unfolding_all rfl) 33 (.tmp 32) rfl w.heap.size 4 rfl cs _ hr0 Tryz.underlying33 rfl HI1.out ?_)
  | (with_reducible refine wpList_load_guarded (by with_unfolding_all rfl) 33 (.tmp 34) rfl (w.heap.size + 1) 4 rfl ds _ hr1 Tryz.underlying33 rfl HI2.out ?_)
  | (go_at_call 44; with_reducible refine hC.mono ?_; rintro e w' ⟨rfl, hb⟩; dsimp only)
  | fail)
 go_ret
 exact ⟨ret_bool (by simp), HB.out.trans (hb.mono HB.out.size)⟩
abbrev ZP281 (x0 : World) (x1 x2 : List Value) : World := ((x0.alloc (.cells x1.toArray 42)).alloc (.cells x2.toArray 42))
theorem samereply_any (t : ResD) (A B : Nat → Prop) (x z c : Int) (cs ds L M : List Value) (hL : L = [.int .i32 x, .int .i64 z, .int .i32 c] ++ cs) (hM : M = [.int .i32 x, .int .i64 z, .int .i32 c] ++ ds) (w : World) (hok : ResOk t) (hR : ResR A w t cs) (hS : ResR B w t ds) (hA : ∀ b, A b → b < w.heap.size) (hB : ∀ b, B b → b < w.heap.size) :
  Calls Tryz.prog 22 #[.agg L.toArray, .agg M.toArray] w fun e w' => e = .returned (.bool true) ∧ Below w.heap.size w w' := by
 have bb0 : Below w.heap.size w (ZP281 w L M) := ((Below.refl w.heap.size w).alloc (Nat.le_refl _) _).alloc (by simp) _
 have g0 : (ZP281 w L M).heap[w.heap.size]? = some (.cells L.toArray 42 (0, 0)) := box_at w _ _
 have g1 : (ZP281 w L M).heap[w.heap.size + 1]? = some (.cells M.toArray 42 (0, 0)) := by
  have := heap_alloc_new (w.alloc (.cells L.toArray 42)) (.cells M.toArray 42)
  rwa [show (w.alloc (.cells L.toArray 42)).heap.size = w.heap.size + 1 by simp] at this
 have l1 : cs.length = 22 := hR.length
 have l2 : ds.length = 22 := hS.length
 have cv : ∀ (W : World) (b o : Nat), W.rangeAt b o L → W.rangeAt b (o + 3) cs := fun W b o h => range_right (xs := [.int .i32 x, .int .i64 z, .int .i32 c]) (by rw [← hL]; exact h)
 have cw : ∀ (W : World) (b o : Nat), W.rangeAt b o M → W.rangeAt b (o + 3) ds := fun W b o h => range_right (xs := [.int .i32 x, .int .i64 z, .int .i32 c]) (by rw [← hM]; exact h)
 have hr0 : (ZP281 w L M).rangeAt w.heap.size 3 cs := by
  have := st_range g0
  rw [List.toList_toArray] at this
  exact cv _ _ _ this
 have hr1 : (ZP281 w L M).rangeAt (w.heap.size + 1) 3 ds := by
  have := st_range g1
  rw [List.toList_toArray] at this
  exact cw _ _ _ this
 have p0 : (ZP281 w L M).cell? ⟨w.heap.size, 0, none⟩ = some (.int .i32 x) := st_at g0 (by rw [hL]; rfl)
 have q0 : (ZP281 w L M).cell? ⟨w.heap.size + 1, 0, none⟩ = some (.int .i32 x) := st_at g1 (by rw [hM]; rfl)
 have p1 : (ZP281 w L M).cell? ⟨w.heap.size, 1, none⟩ = some (.int .i64 z) := st_at g0 (by rw [hL]; rfl)
 have q1 : (ZP281 w L M).cell? ⟨w.heap.size + 1, 1, none⟩ = some (.int .i64 z) := st_at g1 (by rw [hM]; rfl)
 have p2 : (ZP281 w L M).cell? ⟨w.heap.size, 2, none⟩ = some (.int .i32 c) := st_at g0 (by rw [hL]; rfl)
 have q2 : (ZP281 w L M).cell? ⟨w.heap.size + 1, 2, none⟩ = some (.int .i32 c) := st_at g1 (by rw [hM]; rfl)
 have hC := sameres_any t A B cs ds (ZP281 w L M) hok (ResR.kept (fun b hb => bb0.block b (hA b hb)) hR) (ResR.kept (fun b hb => bb0.block b (hB b hb)) hS) (fun b hb => Nat.lt_of_lt_of_le (hA b hb) bb0.size) (fun b hb => Nat.lt_of_lt_of_le (hB b hb) bb0.size)
 have HI1 : RowKit.Hid ((Tryz.prog.info? 40).map (·.size) = some cs.length) := Lib.hid (by rw [l1]; kernel_rfl)
 have HI2 : RowKit.Hid ((Tryz.prog.info? 40).map (·.size) = some ds.length) := Lib.hid (by rw [l2]; kernel_rfl)
 have HB := Lib.hid bb0
 clear hL hM hR hS hA hB g0 g1 l1 l2 cv cw bb0 hok
 go_enter Tryz.func22, Tryz.ntmps22
 go_wp2_with (first
  | (with_reducible refine wpList_load_guarded (by with_unfolding_all rfl) 40 (.tmp 25) rfl w.heap.size 3 rfl cs _ hr0 Tryz.underlying40 rfl HI1.out ?_)
  | (with_reducible refine wpList_load_guarded (by with_unfolding_all rfl) 40 (.tmp 27) rfl (w.heap.size + 1) 3 rfl ds _ hr1 Tryz.underlying40 rfl HI2.out ?_)
  | (go_at_call 45; with_reducible refine hC.mono ?_; rintro e w' ⟨rfl, hb⟩; dsimp only)
  | fail)
 go_ret
 exact ⟨ret_bool (by simp), HB.out.trans (hb.mono HB.out.size)⟩
def codeD (f : TxnF) : Int := if f.type = -1 then f.code else 0
theorem pcode_any (f : TxnF) (pre L : List Value) (v1 v2 v3 v4 v5 : Value) (hp : pre.length = 4) (hL : L = pre ++ f.cells v1 v2 v3 v4 v5) (w : World) :
  Calls Tryz.prog 9 #[.agg L.toArray] w fun e w' => e = .returned (.int .i32 (codeD f)) ∧ Below w.heap.size w w' := by
 have bb : Below w.heap.size w (w.alloc (.cells L.toArray 35)) := (Below.refl w.heap.size w).alloc (Nat.le_refl _) _
 have g0 : (w.alloc (.cells L.toArray 35)).heap[w.heap.size]? = some (.cells L.toArray 35 (0, 0)) := heap_alloc_new w _
 have x4 : (w.alloc (.cells L.toArray 35)).cell? ⟨w.heap.size, 4, none⟩ = some (.int .i32 f.type) := st_at g0 (by rw [List.getElem?_toArray, hL, List.getElem?_append_right (by omega), hp]; rfl)
 have x18 : (w.alloc (.cells L.toArray 35)).cell? ⟨w.heap.size, 18, none⟩ = some (.int .i32 f.code) := st_at g0 (by rw [List.getElem?_toArray, hL, List.getElem?_append_right (by omega), hp]; rfl)
 have HB := Lib.hid bb
 clear g0 hL hp bb
 unfold codeD
 by_cases h : f.type = -1
 ·have h1 : (f.type == -1) = true := by simpa using h
  rw [if_pos h]
  go_enter Tryz.func9, Tryz.ntmps9
  go_wp2
  go_ret
  exact ⟨rfl, HB.out⟩
 ·have h1 : (f.type == -1) = false := by simpa using h
  rw [if_neg h]
  go_enter Tryz.func9, Tryz.ntmps9
  go_wp2
  go_ret
  exact ⟨rfl, HB.out⟩
theorem refcode_any (f : TxnF) (pre L : List Value) (v1 v2 v3 v4 v5 : Value) (hp : pre.length = 4) (hL : L = pre ++ f.cells v1 v2 v3 v4 v5) (w : World) :
  Calls Tryz.prog 10 #[.agg L.toArray] w fun e w' => e = .returned (.int .i32 (codeD f)) ∧ Below w.heap.size w w' := by
 have bb : Below w.heap.size w (w.alloc (.cells L.toArray 35)) := (Below.refl w.heap.size w).alloc (Nat.le_refl _) _
 have g0 : (w.alloc (.cells L.toArray 35)).heap[w.heap.size]? = some (.cells L.toArray 35 (0, 0)) := heap_alloc_new w _
 have x4 : (w.alloc (.cells L.toArray 35)).cell? ⟨w.heap.size, 4, none⟩ = some (.int .i32 f.type) := st_at g0 (by rw [List.getElem?_toArray, hL, List.getElem?_append_right (by omega), hp]; rfl)
 have x18 : (w.alloc (.cells L.toArray 35)).cell? ⟨w.heap.size, 18, none⟩ = some (.int .i32 f.code) := st_at g0 (by rw [List.getElem?_toArray, hL, List.getElem?_append_right (by omega), hp]; rfl)
 have HB := Lib.hid bb
 clear g0 hL hp bb
 unfold codeD
 by_cases h : f.type = -1
 ·have h1 : (f.type == -1) = true := by simpa using h
  rw [if_pos h]
  go_enter Tryz.func10, Tryz.ntmps10
  go_wp2
  go_ret
  exact ⟨rfl, HB.out⟩
 ·have h1 : (f.type == -1) = false := by simpa using h
  rw [if_neg h]
  go_enter Tryz.func10, Tryz.ntmps10
  go_wp2
  go_ret
  exact ⟨rfl, HB.out⟩
theorem no_any (e : Int) (w : World) : Calls Tryz.prog 23 #[.int .i64 e] w fun e' w' => e' = .returned (.int .i64 e) ∧ w' = w := by
 go_enter Tryz.func23, Tryz.ntmps23
 go_wp2
 go_ret
 exact ⟨rfl, rfl⟩
section
set_option maxHeartbeats 16000000
set_option maxRecDepth 100000
section
variable {P : Program}
theorem results_three {fn : Func} {p q t : Tmp} {T U : TypeId} (h : fn.results = #[.cell p T, .cell q U, .tmp t]) (tmps : Array Value) (w : World) (g k : Nat) (t1 t2 : TypeId) (cs ds : Array Value) (f1 f2 : Nat × Nat) (d e : TypeDesc) (v : Value)
  (hp : tmps.getD p undef = .pointer (some ⟨g, 0, none⟩)) (hg : w.heap[g]? = some (.cells cs t1 f1))
  (hu : P.underlying T = some d) (hd : (match d with | .struct _ | .array _ _ => true | _ => false) = true) (hi : (P.info? T).map (·.size) = some cs.size)
  (hq : tmps.getD q undef = .pointer (some ⟨k, 0, none⟩)) (hk : w.heap[k]? = some (.cells ds t2 f2))
  (hu2 : P.underlying U = some e) (hd2 : (match e with | .struct _ | .array _ _ => true | _ => false) = true) (hi2 : (P.info? U).map (·.size) = some ds.size)
  (ht : tmps.getD t undef = v) :
  (results fn tmps).run P w = .ok (.tuple #[.agg cs, .agg ds, v]) w := by
 have hp' : tmps[p]?.getD undef = .pointer (some ⟨g, 0, none⟩) := by simpa using hp
 have hq' : tmps[q]?.getD undef = .pointer (some ⟨k, 0, none⟩) := by simpa using hq
 have ht' : tmps[t]?.getD undef = v := by simpa using ht
 simp [results, h, hp', hq', ht', asAddr, run_loadVar_row w g t1 T cs f1 d hg hu hd hi, run_loadVar_row w k t2 U ds f2 e hk hu2 hd2 hi2]
theorem built_list (t : TypeId) (a : Act) (pl : List (Nat × Operand)) (cells : Array Value) (hb : P.built t (pl.map fun ix => (ix.1, a.eval ix.2)) = some cells) : P.built t (pl.toArray.map fun (i, x) => (i, a.eval x)).toList = some cells := by
 rw [← hb]
 congr 1
 simp
theorem wpList_build_to {ops : Array Oper} {rest : List Oper} {o : Oper} {a : Act} {w : World} {Q : Exit → Act → World → Prop} (hg : o.guard = none) (t : TypeId) (pl : List (Nat × Operand)) (ho : o.op = .build t pl.toArray) (cells : Array Value)
  (hb : P.built t (pl.map fun ix => (ix.1, a.eval ix.2)) = some cells)
  (h : wpList P ops Q rest (a.put o.dst (.agg cells)) w) : wpList P ops Q (o :: rest) a w :=
 wpList_build hg t pl.toArray ho (by rw [built_list t a pl cells hb]; rfl) (by rw [built_list t a pl cells hb]; exact h)
theorem step_store_row {ops : Array Oper} {o : Oper} {a : Act} {w : World} {K : Act → World → Prop} {Q : Exit → Act → World → Prop} {E : Prop} (hgd : o.guard = none) (ty : TypeId) (x y : Operand) (ho : o.op = .store ty x y)
  (g : Nat) (cells : Array Value) (hx : a.eval x = .pointer (some ⟨g, 0, none⟩)) (hy : a.eval y = .agg cells)
  (t : TypeId) (old : Array Value) (hg : w.heap[g]? = some (.cells old t (0, 0))) (hi : (P.info? ty).map (·.size) = some cells.size)
  (hold : old.size = cells.size) (h1 : cells.all (·.oneCell') = true)
  (h : K (a.put o.dst undef) (w.setRow g cells)) : if Region.wanted o (yielded ops a.tmps) = true then Oper.wp P o a w K Q else E := by
 rw [if_pos (by simp [Region.wanted, hgd])]
 exact wp_store_row ty x y ho g cells hx hy t old hg hi hold h1 h
end
theorem setRow_apart (w : World) (g b : Nat) (cs : Array Value) (h : b ≠ g) : (w.setRow g cs).heap[b]? = w.heap[b]? := by
 simp [World.setRow, Array.getElem?_modify, Ne.symm h]
def zTxn : TxnF := { type := 0, path := ⟨#[]⟩, data := [], acl := [], owner := 0, version := 0, creates := 0, has := false, count := 0, bytes := 0, sid := 0, timeout := 0, ids := [], paths := [], code := 0 }
def zRes : ResF := { type := 0, code := 0, path := ⟨#[]⟩, czxid := 0, mzxid := 0, ctime := 0, mtime := 0, version := 0, cversion := 0, aversion := 0, owner := 0, dlen := 0, nkids := 0, pzxid := 0, data := [], acl := [], names := [], count := 0, sid := 0, timeout := 0, ids := [] }
def preD (s x z t : Int) : List Value := [.int .i64 s, .int .i32 x, .int .i64 z, .int .i64 t]
def preR (x z c : Int) : List Value := [.int .i32 x, .int .i64 z, .int .i32 c]
def errTxn (ty c : Int) : List Value := [.int .i32 ty, .string ⟨#[]⟩, .slice none 0 0, .slice none 0 0, .int .i64 0, .int .i32 0, .int .i32 0, .bool false, .int .i64 0, .int .i64 0, .int .i64 0, .int .i32 0, .slice none 0 0, .slice none 0 0, .int .i32 c, .slice none 0 0]
def zResL : List Value := [.int .i32 0, .int .i32 0, .string ⟨#[]⟩, .int .i64 0, .int .i64 0, .int .i64 0, .int .i64 0, .int .i32 0, .int .i32 0, .int .i32 0, .int .i64 0, .int .i32 0, .int .i32 0, .int .i64 0, .slice none 0 0, .slice none 0 0, .slice none 0 0, .int .i32 0, .int .i64 0, .int .i32 0, .slice none 0 0, .slice none 0 0]
theorem errTxn_r (A : Nat → Prop) (w : World) (ty c : Int) : TxnR A w (.mk { zTxn with type := ty, code := c } []) (errTxn ty c) := by
 rw [TxnR]
 exact ⟨_, _, _, _, _, [], rfl, slr_nil0, slr_nil0, slr_nil0, slr_nil0, slr_nil0, by rw [TxnsR]⟩
theorem zRes_r (A : Nat → Prop) (w : World) : ResR A w (.mk zRes []) zResL := by
 rw [ResR]
 exact ⟨_, _, _, _, _, [], rfl, slr_nil0, slr_nil0, slr_nil0, slr_nil0, slr_nil0, by rw [RessR]⟩
theorem zTxn_ok (ty c : Int) : TxnOk (.mk { zTxn with type := ty, code := c } []) := by
 rw [TxnOk, TxnsOk]
 refine ⟨?_, by decide, trivial⟩
 constructor <;> first | exact Nat.zero_le 1048576 | (intro x hx; cases hx)
theorem zRes_ok : ResOk (.mk zRes []) := by
 rw [ResOk, RessOk]
 refine ⟨?_, by decide, trivial⟩
 constructor <;> first | exact Nat.zero_le 1048576 | (intro x hx; cases hx)
theorem built35 (s x z t : Int) (cs : List Value) (h : cs.length = 16) : Tryz.prog.built 35 [(0, .int .i64 s), (1, .int .i32 x), (2, .int .i64 z), (3, .int .i64 t), (4, .agg cs.toArray)] = some (preD s x z t ++ cs).toArray := by
 rcases cs with _ | ⟨c0, cs⟩
 ·simp at h
 rcases cs with _ | ⟨c1, cs⟩
 ·simp at h
 rcases cs with _ | ⟨c2, cs⟩
 ·simp at h
 rcases cs with _ | ⟨c3, cs⟩
 ·simp at h
 rcases cs with _ | ⟨c4, cs⟩
 ·simp at h
 rcases cs with _ | ⟨c5, cs⟩
 ·simp at h
 rcases cs with _ | ⟨c6, cs⟩
 ·simp at h
 rcases cs with _ | ⟨c7, cs⟩
 ·simp at h
 rcases cs with _ | ⟨c8, cs⟩
 ·simp at h
 rcases cs with _ | ⟨c9, cs⟩
 ·simp at h
 rcases cs with _ | ⟨c10, cs⟩
 ·simp at h
 rcases cs with _ | ⟨c11, cs⟩
 ·simp at h
 rcases cs with _ | ⟨c12, cs⟩
 ·simp at h
 rcases cs with _ | ⟨c13, cs⟩
 ·simp at h
 rcases cs with _ | ⟨c14, cs⟩
 ·simp at h
 rcases cs with _ | ⟨c15, cs⟩
 ·simp at h
 rcases cs with _ | ⟨c16, cs⟩
 rotate_left
 ·simp at h
 kernel_rfl
theorem built42 (x z : Int) (cs : List Value) (h : cs.length = 22) : Tryz.prog.built 42 [(0, .int .i32 x), (1, .int .i64 z), (3, .agg cs.toArray)] = some (preR x z 0 ++ cs).toArray := by
 rcases cs with _ | ⟨c0, cs⟩
 ·simp at h
 rcases cs with _ | ⟨c1, cs⟩
 ·simp at h
 rcases cs with _ | ⟨c2, cs⟩
 ·simp at h
 rcases cs with _ | ⟨c3, cs⟩
 ·simp at h
 rcases cs with _ | ⟨c4, cs⟩
 ·simp at h
 rcases cs with _ | ⟨c5, cs⟩
 ·simp at h
 rcases cs with _ | ⟨c6, cs⟩
 ·simp at h
 rcases cs with _ | ⟨c7, cs⟩
 ·simp at h
 rcases cs with _ | ⟨c8, cs⟩
 ·simp at h
 rcases cs with _ | ⟨c9, cs⟩
 ·simp at h
 rcases cs with _ | ⟨c10, cs⟩
 ·simp at h
 rcases cs with _ | ⟨c11, cs⟩
 ·simp at h
 rcases cs with _ | ⟨c12, cs⟩
 ·simp at h
 rcases cs with _ | ⟨c13, cs⟩
 ·simp at h
 rcases cs with _ | ⟨c14, cs⟩
 ·simp at h
 rcases cs with _ | ⟨c15, cs⟩
 ·simp at h
 rcases cs with _ | ⟨c16, cs⟩
 ·simp at h
 rcases cs with _ | ⟨c17, cs⟩
 ·simp at h
 rcases cs with _ | ⟨c18, cs⟩
 ·simp at h
 rcases cs with _ | ⟨c19, cs⟩
 ·simp at h
 rcases cs with _ | ⟨c20, cs⟩
 ·simp at h
 rcases cs with _ | ⟨c21, cs⟩
 ·simp at h
 rcases cs with _ | ⟨c22, cs⟩
 rotate_left
 ·simp at h
 kernel_rfl
theorem built42c (x z c : Int) : Tryz.prog.built 42 [(0, .int .i32 x), (1, .int .i64 z), (2, .int .i32 c)] = some (preR x z c ++ zResL).toArray := by kernel_rfl
theorem built33e (c : Int) : Tryz.prog.built 33 [(0, .int .i32 (-1)), (10, .int .i32 c)] = some (errTxn (-1) c).toArray := by kernel_rfl
theorem built35z : Tryz.prog.built 35 [] = some (preD 0 0 0 0 ++ errTxn 0 0).toArray := by kernel_rfl
theorem built42z : Tryz.prog.built 42 [] = some (preR 0 0 0 ++ zResL).toArray := by kernel_rfl
theorem errTxn_one (ty c : Int) : ∀ u ∈ errTxn ty c, u.oneCell' = true := by
 intro u hu; unfold errTxn at hu; simp only [List.mem_cons, List.not_mem_nil, or_false] at hu
 rcases hu with rfl | rfl | rfl | rfl | rfl | rfl | rfl | rfl | rfl | rfl | rfl | rfl | rfl | rfl | rfl | rfl <;> rfl
theorem zResL_one : ∀ u ∈ zResL, u.oneCell' = true := by
 intro u hu; unfold zResL at hu; simp only [List.mem_cons, List.not_mem_nil, or_false] at hu
 rcases hu with rfl | rfl | rfl | rfl | rfl | rfl | rfl | rfl | rfl | rfl | rfl | rfl | rfl | rfl | rfl | rfl | rfl | rfl | rfl | rfl | rfl | rfl <;> rfl
theorem preD_one (s x z t : Int) (cs : List Value) (h : ∀ u ∈ cs, u.oneCell' = true) : (preD s x z t ++ cs).toArray.all (·.oneCell') = true := all_oneCell_toArray (by
 intro u hu
 rcases List.mem_append.1 hu with hu | hu
 ·unfold preD at hu; simp only [List.mem_cons, List.not_mem_nil, or_false] at hu; rcases hu with rfl | rfl | rfl | rfl <;> rfl
 ·exact h u hu)
theorem preR_one (x z c : Int) (cs : List Value) (h : ∀ u ∈ cs, u.oneCell' = true) : (preR x z c ++ cs).toArray.all (·.oneCell') = true := all_oneCell_toArray (by
 intro u hu
 rcases List.mem_append.1 hu with hu | hu
 ·unfold preR at hu; simp only [List.mem_cons, List.not_mem_nil, or_false] at hu; rcases hu with rfl | rfl | rfl <;> rfl
 ·exact h u hu)
def OutPost (w : World) (pd : List Value) (td : TxnD) (pr : List Value) (rd : ResD) (e : Int) (E : Ending) (W : World) : Prop :=
 ∃ (A : Nat → Prop) (cs rs : List Value), E = .returned (.tuple #[.agg (pd ++ cs).toArray, .agg (pr ++ rs).toArray, .int .i64 e]) ∧ TxnR A W td cs ∧ ResR A W rd rs ∧ (∀ b, A b → b < W.heap.size) ∧ Below w.heap.size w W
theorem i35 {cs : List Value} (h : cs.length = 20) : RowKit.Hid ((Tryz.prog.info? 35).map (·.size) = some cs.length) := Lib.hid (by rw [h]; kernel_rfl)
theorem i35a {cs : List Value} (h : cs.length = 20) : RowKit.Hid ((Tryz.prog.info? 35).map (·.size) = some cs.toArray.size) := Lib.hid (by rw [List.size_toArray, h]; kernel_rfl)
theorem i42 {cs : List Value} (h : cs.length = 25) : RowKit.Hid ((Tryz.prog.info? 42).map (·.size) = some cs.length) := Lib.hid (by rw [h]; kernel_rfl)
theorem i42a {cs : List Value} (h : cs.length = 25) : RowKit.Hid ((Tryz.prog.info? 42).map (·.size) = some cs.toArray.size) := Lib.hid (by rw [List.size_toArray, h]; kernel_rfl)
abbrev ZP291 : Array Value := #[.int .i32 0, .int .i64 0, .int .i32 0, .int .i32 0, .int .i32 0, .string ⟨#[]⟩, .int .i64 0, .int .i64 0, .int .i64 0, .int .i64 0, .int .i32 0, .int .i32 0, .int .i32 0, .int .i64 0, .int .i32 0, .int .i32 0, .int .i64 0, .slice none 0 0, .slice none 0 0, .slice none 0 0, .int .i32 0, .int .i64 0, .int .i32 0, .slice none 0 0, .slice none 0 0]
theorem pfailed_any (x z c : Int) (w : World) : Calls Tryz.prog 29 #[.int .i32 x, .int .i64 z, .int .i32 c] w fun e w' => e = .returned (.agg (preR x z c ++ zResL).toArray) ∧ Below w.heap.size w w' := by
 have hz : (w.alloc (.cells ZP291 42)).heap[w.heap.size]? = some (.cells ZP291 42 (0, 0)) := heap_alloc_new w _
 have hone := preR_one x z c zResL zResL_one
 have HI := i42a (cs := preR x z c ++ zResL) rfl
 have hrow := setRow_heap (w.alloc (.cells ZP291 42)) w.heap.size _ (preR x z c ++ zResL).toArray 42 (0, 0) hz
 have hb := below_setRow ((Below.refl w.heap.size w).alloc (Nat.le_refl _) (.cells ZP291 42)) (g := w.heap.size) (Nat.le_refl _) (preR x z c ++ zResL).toArray
 have HB := Lib.hid hb
 have HROW := Lib.hid hrow
 have HONE := Lib.hid hone
 clear hb hrow hone
 go_enter Tryz.func29, Tryz.ntmps29
 go_wp2_with (first
  | (refine wpList_build_to rfl 42 _ rfl (preR x z c ++ zResL).toArray (by exact built42c x z c) ?_)
  | (with_reducible refine wpList_store_row rfl 42 (.tmp 6) (.tmp 10) rfl w.heap.size (preR x z c ++ zResL).toArray rfl rfl 42 _ hz HI.out rfl HONE.out ?_)
  | fail)
 refine bodyPost_ret (v := .agg (preR x z c ++ zResL).toArray) (results_cell_row rfl _ _ w.heap.size 42 _ (0, 0) _ rfl HROW.out Tryz.underlying42 rfl HI.out) rfl ?_
 exact ⟨rfl, HB.out⟩
abbrev ZP290 (x0 : World) : World := ((x0.alloc (.cells #[.int .i64 0, .int .i32 0, .int .i64 0, .int .i64 0, .int .i32 0, .string ⟨#[]⟩, .slice none 0 0, .slice none 0 0, .int .i64 0, .int .i32 0, .int .i32 0, .bool false, .int .i64 0, .int .i64 0, .int .i64 0, .int .i32 0, .slice none 0 0, .slice none 0 0, .int .i32 0, .slice none 0 0] 35)).alloc (.cells #[.int .i32 0, .int .i64 0, .int .i32 0, .int .i32 0, .int .i32 0, .string ⟨#[]⟩, .int .i64 0, .int .i64 0, .int .i64 0, .int .i64 0, .int .i32 0, .int .i32 0, .int .i32 0, .int .i64 0, .int .i32 0, .int .i32 0, .int .i64 0, .slice none 0 0, .slice none 0 0, .slice none 0 0, .int .i32 0, .int .i64 0, .int .i32 0, .slice none 0 0, .slice none 0 0] 42))
abbrev ZP292 : Array Value := #[.int .i64 0, .int .i32 0, .int .i64 0, .int .i64 0, .int .i32 0, .string ⟨#[]⟩, .slice none 0 0, .slice none 0 0, .int .i64 0, .int .i32 0, .int .i32 0, .bool false, .int .i64 0, .int .i64 0, .int .i64 0, .int .i32 0, .slice none 0 0, .slice none 0 0, .int .i32 0, .slice none 0 0]
theorem prefused_bad (s x z t c : Int) (hbad : z < 1 ∨ 0 ≤ c) (w : World) : Calls Tryz.prog 12 #[.int .i64 s, .int .i32 x, .int .i64 z, .int .i64 t, .int .i32 c] w fun E W => OutPost w (preD 0 0 0 0) (.mk { zTxn with type := 0, code := 0 } []) (preR 0 0 0) (.mk zRes []) 1 E W := by
 have hz1 : (ZP290 w).heap[w.heap.size]? = some (.cells ZP292 35 (0, 0)) := by
  rw [Below.heap_alloc _ _ _ (by simp)]; exact heap_alloc_new w _
 have hz2 : ((ZP290 w).setRow w.heap.size (preD 0 0 0 0 ++ errTxn 0 0).toArray).heap[w.heap.size + 1]? = some (.cells ZP291 42 (0, 0)) := by
  rw [setRow_apart _ _ _ _ (by omega)]
  exact heap_alloc2_new w _ _
 have HI := i35a (cs := preD 0 0 0 0 ++ errTxn 0 0) rfl
 have HJ := i42a (cs := preR 0 0 0 ++ zResL) rfl
 have HO1 := Lib.hid (preD_one 0 0 0 0 (errTxn 0 0) (errTxn_one 0 0))
 have HO2 := Lib.hid (preR_one 0 0 0 zResL zResL_one)
 have hr1 := setRow_heap (ZP290 w) w.heap.size _ (preD 0 0 0 0 ++ errTxn 0 0).toArray 35 (0, 0) hz1
 have hr2 := setRow_heap ((ZP290 w).setRow w.heap.size (preD 0 0 0 0 ++ errTxn 0 0).toArray) (w.heap.size + 1) _ (preR 0 0 0 ++ zResL).toArray 42 (0, 0) hz2
 have HR1 : RowKit.Hid ((((ZP290 w).setRow w.heap.size (preD 0 0 0 0 ++ errTxn 0 0).toArray).setRow (w.heap.size + 1) (preR 0 0 0 ++ zResL).toArray).heap[w.heap.size]? = some (.cells (preD 0 0 0 0 ++ errTxn 0 0).toArray 35 (0, 0))) := Lib.hid (by rw [setRow_apart _ _ _ _ (by omega)]; exact hr1)
 have HR2 := Lib.hid hr2
 have HB := Lib.hid (below_setRow (below_setRow (((Below.refl w.heap.size w).alloc (Nat.le_refl _) (.cells ZP292 35)).alloc (by simp) (.cells ZP291 42)) (g := w.heap.size) (Nat.le_refl _) (preD 0 0 0 0 ++ errTxn 0 0).toArray) (g := w.heap.size + 1) (by omega) (preR 0 0 0 ++ zResL).toArray)
 clear hr1 hr2
 have key : ∀ E, E = .returned (.tuple #[.agg (preD 0 0 0 0 ++ errTxn 0 0).toArray, .agg (preR 0 0 0 ++ zResL).toArray, .int .i64 1]) → OutPost w (preD 0 0 0 0) (.mk { zTxn with type := 0, code := 0 } []) (preR 0 0 0) (.mk zRes []) 1 E (((ZP290 w).setRow w.heap.size (preD 0 0 0 0 ++ errTxn 0 0).toArray).setRow (w.heap.size + 1) (preR 0 0 0 ++ zResL).toArray) :=
  fun E hE => ⟨fun _ => False, _, _, hE, errTxn_r _ _ 0 0, zRes_r _ _, fun _ h => h.elim, HB.out⟩
 have hcase : z < 1 ∨ (¬ z < 1 ∧ 0 ≤ c) := by omega
 rcases hcase with h1 | ⟨h1, h2⟩
 all_goals
  go_enter Tryz.func12, Tryz.ntmps12
  go_wp2_with (first
   | (refine wpList_build_to rfl 35 _ rfl (preD 0 0 0 0 ++ errTxn 0 0).toArray (by exact built35z) ?_)
   | (refine wpList_build_to rfl 42 _ rfl (preR 0 0 0 ++ zResL).toArray (by exact built42z) ?_)
   | (with_reducible refine wpList_store_row rfl 35 (.tmp 10) (.tmp 20) rfl w.heap.size (preD 0 0 0 0 ++ errTxn 0 0).toArray rfl rfl 35 _ hz1 HI.out rfl HO1.out ?_)
   | (with_reducible refine wpList_store_row rfl 42 (.tmp 11) (.tmp 21) rfl (w.heap.size + 1) (preR 0 0 0 ++ zResL).toArray rfl rfl 42 _ hz2 HJ.out rfl HO2.out ?_)
   | fail)
  refine bodyPost_ret (results_three rfl _ _ w.heap.size (w.heap.size + 1) 35 42 _ _ (0, 0) (0, 0) _ _ (.int .i64 1) rfl HR1.out Tryz.underlying35 rfl HI.out rfl HR2.out Tryz.underlying42 rfl HJ.out rfl) rfl ?_
  exact key _ rfl
theorem rrefused_bad (s x z t c : Int) (hbad : z < 1 ∨ 0 ≤ c) (w : World) : Calls Tryz.prog 13 #[.int .i64 s, .int .i32 x, .int .i64 z, .int .i64 t, .int .i32 c] w fun E W => OutPost w (preD 0 0 0 0) (.mk { zTxn with type := 0, code := 0 } []) (preR 0 0 0) (.mk zRes []) 1 E W := by
 have hz1 : (ZP290 w).heap[w.heap.size]? = some (.cells ZP292 35 (0, 0)) := by
  rw [Below.heap_alloc _ _ _ (by simp)]; exact heap_alloc_new w _
 have hz2 : ((ZP290 w).setRow w.heap.size (preD 0 0 0 0 ++ errTxn 0 0).toArray).heap[w.heap.size + 1]? = some (.cells ZP291 42 (0, 0)) := by
  rw [setRow_apart _ _ _ _ (by omega)]
  exact heap_alloc2_new w _ _
 have HI := i35a (cs := preD 0 0 0 0 ++ errTxn 0 0) rfl
 have HJ := i42a (cs := preR 0 0 0 ++ zResL) rfl
 have HO1 := Lib.hid (preD_one 0 0 0 0 (errTxn 0 0) (errTxn_one 0 0))
 have HO2 := Lib.hid (preR_one 0 0 0 zResL zResL_one)
 have hr1 := setRow_heap (ZP290 w) w.heap.size _ (preD 0 0 0 0 ++ errTxn 0 0).toArray 35 (0, 0) hz1
 have hr2 := setRow_heap ((ZP290 w).setRow w.heap.size (preD 0 0 0 0 ++ errTxn 0 0).toArray) (w.heap.size + 1) _ (preR 0 0 0 ++ zResL).toArray 42 (0, 0) hz2
 have HR1 : RowKit.Hid ((((ZP290 w).setRow w.heap.size (preD 0 0 0 0 ++ errTxn 0 0).toArray).setRow (w.heap.size + 1) (preR 0 0 0 ++ zResL).toArray).heap[w.heap.size]? = some (.cells (preD 0 0 0 0 ++ errTxn 0 0).toArray 35 (0, 0))) := Lib.hid (by rw [setRow_apart _ _ _ _ (by omega)]; exact hr1)
 have HR2 := Lib.hid hr2
 have HB := Lib.hid (below_setRow (below_setRow (((Below.refl w.heap.size w).alloc (Nat.le_refl _) (.cells ZP292 35)).alloc (by simp) (.cells ZP291 42)) (g := w.heap.size) (Nat.le_refl _) (preD 0 0 0 0 ++ errTxn 0 0).toArray) (g := w.heap.size + 1) (by omega) (preR 0 0 0 ++ zResL).toArray)
 clear hr1 hr2
 have key : ∀ E, E = .returned (.tuple #[.agg (preD 0 0 0 0 ++ errTxn 0 0).toArray, .agg (preR 0 0 0 ++ zResL).toArray, .int .i64 1]) → OutPost w (preD 0 0 0 0) (.mk { zTxn with type := 0, code := 0 } []) (preR 0 0 0) (.mk zRes []) 1 E (((ZP290 w).setRow w.heap.size (preD 0 0 0 0 ++ errTxn 0 0).toArray).setRow (w.heap.size + 1) (preR 0 0 0 ++ zResL).toArray) :=
  fun E hE => ⟨fun _ => False, _, _, hE, errTxn_r _ _ 0 0, zRes_r _ _, fun _ h => h.elim, HB.out⟩
 have hcase : z < 1 ∨ (¬ z < 1 ∧ 0 ≤ c) := by omega
 rcases hcase with h1 | ⟨h1, h2⟩
 all_goals
  go_enter Tryz.func13, Tryz.ntmps13
  go_wp2_with (first
   | (refine wpList_build_to rfl 35 _ rfl (preD 0 0 0 0 ++ errTxn 0 0).toArray (by exact built35z) ?_)
   | (refine wpList_build_to rfl 42 _ rfl (preR 0 0 0 ++ zResL).toArray (by exact built42z) ?_)
   | (with_reducible refine wpList_store_row rfl 35 (.tmp 10) (.tmp 20) rfl w.heap.size (preD 0 0 0 0 ++ errTxn 0 0).toArray rfl rfl 35 _ hz1 HI.out rfl HO1.out ?_)
   | (with_reducible refine wpList_store_row rfl 42 (.tmp 11) (.tmp 21) rfl (w.heap.size + 1) (preR 0 0 0 ++ zResL).toArray rfl rfl 42 _ hz2 HJ.out rfl HO2.out ?_)
   | fail)
  refine bodyPost_ret (results_three rfl _ _ w.heap.size (w.heap.size + 1) 35 42 _ _ (0, 0) (0, 0) _ _ (.int .i64 1) rfl HR1.out Tryz.underlying35 rfl HI.out rfl HR2.out Tryz.underlying42 rfl HJ.out rfl) rfl ?_
  exact key _ rfl
end
set_option maxHeartbeats 16000000
abbrev ZP29a0 (x0 : World) : World := ((x0.alloc (.cells #[.int .i64 0, .int .i32 0, .int .i64 0, .int .i64 0, .int .i32 0, .string ⟨#[]⟩, .slice none 0 0, .slice none 0 0, .int .i64 0, .int .i32 0, .int .i32 0, .bool false, .int .i64 0, .int .i64 0, .int .i64 0, .int .i32 0, .slice none 0 0, .slice none 0 0, .int .i32 0, .slice none 0 0] 35)).alloc (.cells #[.int .i32 0, .int .i64 0, .int .i32 0, .int .i32 0, .int .i32 0, .string ⟨#[]⟩, .int .i64 0, .int .i64 0, .int .i64 0, .int .i64 0, .int .i32 0, .int .i32 0, .int .i32 0, .int .i64 0, .int .i32 0, .int .i32 0, .int .i64 0, .slice none 0 0, .slice none 0 0, .slice none 0 0, .int .i32 0, .int .i64 0, .int .i32 0, .slice none 0 0, .slice none 0 0] 42))
abbrev ZP29a1 : Array Value := #[.int .i64 0, .int .i32 0, .int .i64 0, .int .i64 0, .int .i32 0, .string ⟨#[]⟩, .slice none 0 0, .slice none 0 0, .int .i64 0, .int .i32 0, .int .i32 0, .bool false, .int .i64 0, .int .i64 0, .int .i64 0, .int .i32 0, .slice none 0 0, .slice none 0 0, .int .i32 0, .slice none 0 0]
abbrev ZP29a2 : Array Value := #[.int .i32 0, .int .i64 0, .int .i32 0, .int .i32 0, .int .i32 0, .string ⟨#[]⟩, .int .i64 0, .int .i64 0, .int .i64 0, .int .i64 0, .int .i32 0, .int .i32 0, .int .i32 0, .int .i64 0, .int .i32 0, .int .i32 0, .int .i64 0, .slice none 0 0, .slice none 0 0, .slice none 0 0, .int .i32 0, .int .i64 0, .int .i32 0, .slice none 0 0, .slice none 0 0]
theorem prefused_good (s x z t c : Int) (h1 : ¬ z < 1) (h2 : ¬ 0 ≤ c) (w : World) : Calls Tryz.prog 12 #[.int .i64 s, .int .i32 x, .int .i64 z, .int .i64 t, .int .i32 c] w fun E W => OutPost w (preD s x z t) (.mk { zTxn with type := -1, code := c } []) (preR x z c) (.mk zRes []) 0 E W := by
 obtain ⟨v, hv⟩ : ∃ v, Value.int .i64 s = v := ⟨_, rfl⟩
 have hpre : preD s x z t = [v, .int .i32 x, .int .i64 z, .int .i64 t] := by unfold preD; rw [hv]
 rw [hv, hpre]
 have HBU : RowKit.Hid (Tryz.prog.built 35 [(0, v), (1, .int .i32 x), (2, .int .i64 z), (3, .int .i64 t), (4, .agg (errTxn (-1) c).toArray)] = some ([v, .int .i32 x, .int .i64 z, .int .i64 t] ++ errTxn (-1) c).toArray) := Lib.hid (by rw [← hv]; exact built35 s x z t (errTxn (-1) c) rfl)
 have HO1 : RowKit.Hid (([v, .int .i32 x, .int .i64 z, .int .i64 t] ++ errTxn (-1) c).toArray.all (·.oneCell') = true) := Lib.hid (by rw [← hpre]; exact preD_one s x z t (errTxn (-1) c) (errTxn_one (-1) c))
 clear hv hpre
 have hb0 : Below w.heap.size w ((ZP29a0 w).alloc (.cells ([v, .int .i32 x, .int .i64 z, .int .i64 t] ++ errTxn (-1) c).toArray 35)) := (((Below.refl w.heap.size w).alloc (Nat.le_refl _) (.cells ZP29a1 35)).alloc (by simp) (.cells ZP29a2 42)).alloc (by simp; omega) _
 have hz1 : ((ZP29a0 w).alloc (.cells ([v, .int .i32 x, .int .i64 z, .int .i64 t] ++ errTxn (-1) c).toArray 35)).heap[w.heap.size]? = some (.cells ZP29a1 35 (0, 0)) := by
  rw [Below.heap_alloc _ _ _ (by simp; omega), Below.heap_alloc _ _ _ (by simp)]; exact heap_alloc_new w _
 have hz2 : ((ZP29a0 w).alloc (.cells ([v, .int .i32 x, .int .i64 z, .int .i64 t] ++ errTxn (-1) c).toArray 35)).heap[w.heap.size + 1]? = some (.cells ZP29a2 42 (0, 0)) := by
  rw [Below.heap_alloc _ _ _ (by simp)]; exact heap_alloc2_new w _ _
 have hrD : ((ZP29a0 w).alloc (.cells ([v, .int .i32 x, .int .i64 z, .int .i64 t] ++ errTxn (-1) c).toArray 35)).rangeAt (w.heap.size + 2) 0 ([v, .int .i32 x, .int .i64 z, .int .i64 t] ++ errTxn (-1) c) := by
  have := new_range (ZP29a0 w) ([v, .int .i32 x, .int .i64 z, .int .i64 t] ++ errTxn (-1) c) 35
  rwa [show (ZP29a0 w).heap.size = w.heap.size + 2 by simp] at this
 have hlt : w.heap.size + 2 < ((ZP29a0 w).alloc (.cells ([v, .int .i32 x, .int .i64 z, .int .i64 t] ++ errTxn (-1) c).toArray 35)).heap.size := by simp
 have HD : RowKit.Hid (((ZP29a0 w).alloc (.cells ([v, .int .i32 x, .int .i64 z, .int .i64 t] ++ errTxn (-1) c).toArray 35)).heap[w.heap.size + 2]? = some (.cells ([v, .int .i32 x, .int .i64 z, .int .i64 t] ++ errTxn (-1) c).toArray 35 (0, 0))) := Lib.hid (by
  have := heap_alloc_new (ZP29a0 w) (.cells ([v, .int .i32 x, .int .i64 z, .int .i64 t] ++ errTxn (-1) c).toArray 35)
  rwa [show (ZP29a0 w).heap.size = w.heap.size + 2 by simp] at this)
 have hlt0 : w.heap.size < ((ZP29a0 w).alloc (.cells ([v, .int .i32 x, .int .i64 z, .int .i64 t] ++ errTxn (-1) c).toArray 35)).heap.size := by omega
 have hlt1 : w.heap.size + 1 < ((ZP29a0 w).alloc (.cells ([v, .int .i32 x, .int .i64 z, .int .i64 t] ++ errTxn (-1) c).toArray 35)).heap.size := by omega
 have HIL := i35 (cs := [v, .int .i32 x, .int .i64 z, .int .i64 t] ++ errTxn (-1) c) rfl
 have HK2 : RowKit.Hid ((ZP29a0 w).heap.size = w.heap.size + 2) := Lib.hid (by simp)
 have HCZ : RowKit.Hid ((ZP29a1 : Array Value).size = ([v, .int .i32 x, .int .i64 z, .int .i64 t] ++ errTxn (-1) c).toArray.size) := Lib.hid rfl
 have HI := i35a (cs := [v, .int .i32 x, .int .i64 z, .int .i64 t] ++ errTxn (-1) c) rfl
 have HJ := i42a (cs := preR x z c ++ zResL) rfl
 have HO2 := Lib.hid (preR_one x z c zResL zResL_one)
 go_enter Tryz.func12, Tryz.ntmps12
 go_wp2_with (first
  | (refine wpList_build_to rfl 33 _ rfl (errTxn (-1) c).toArray (by exact built33e c) ?_)
  | (refine wpList_build_to rfl 35 _ rfl ([v, .int .i32 x, .int .i64 z, .int .i64 t] ++ errTxn (-1) c).toArray (by exact HBU.out) ?_)
  | (with_reducible refine wpList_store_newk rfl 35 (.tmp 13) (.tmp 28) rfl (w.heap.size + 2) ZP29a1 ([v, .int .i32 x, .int .i64 z, .int .i64 t] ++ errTxn (-1) c).toArray HK2.out rfl rfl HI.out HCZ.out HO1.out ?_; generalize ((ZP29a0 w).alloc (.cells ([v, .int .i32 x, .int .i64 z, .int .i64 t] ++ errTxn (-1) c).toArray 35)) = V at hz1 hz2 HD hb0 hlt hlt0 hlt1 ⊢)
  | fail)
 refine wp_region_held_lit (S := fun W => W.heap[w.heap.size + 2]? = some (.cells ([v, .int .i32 x, .int .i64 z, .int .i64 t] ++ errTxn (-1) c).toArray 35 (0, 0))) 8 #[false, false, false, false, false, false, false, false] rfl rfl (by kernel_rfl) HD.out (fun hHeld => ?_)
 refine wpAnyH_take (i := 0) (oi := { dst := some 29, op := Op.load 35 (Operand.tmp 13), type := 35, pos := "compile.go:19", after := #[], guard := none }) (v := .agg ([v, .int .i32 x, .int .i64 z, .int .i64 t] ++ errTxn (-1) c).toArray) rfl (by kernel_rfl) (by kernel_rfl) (by kernel_rfl) (fun _ _ _ h => h) (yieldsIf_load_mid (by rfl) 35 (.tmp 13) rfl (w.heap.size + 2) 0 rfl ([v, .int .i32 x, .int .i64 z, .int .i64 t] ++ errTxn (-1) c) _ (fun wz hSw => by have := st_range hSw; rwa [List.toList_toArray] at this) Tryz.underlying35 rfl HIL.out) hHeld ?_
 simp only [Act.put, List.setIfInBounds_toArray, List.set]
 refine wpAnyH_take (i := 1) (oi := { dst := some 30, op := Op.move (Operand.tmp 1), type := 21, pos := "compile.go:19", after := #[], guard := none }) (v := .int .i32 x) rfl (by kernel_rfl) (by kernel_rfl) (by kernel_rfl) (fun _ _ _ h => h) (Or.inl ⟨by rfl, fun wz hSw => by go_simp⟩) hHeld ?_
 simp only [Act.put, List.setIfInBounds_toArray, List.set]
 refine wpAnyH_take (i := 2) (oi := { dst := some 31, op := Op.move (Operand.tmp 2), type := 2, pos := "compile.go:19", after := #[], guard := none }) (v := .int .i64 z) rfl (by kernel_rfl) (by kernel_rfl) (by kernel_rfl) (fun _ _ _ h => h) (Or.inl ⟨by rfl, fun wz hSw => by go_simp⟩) hHeld ?_
 simp only [Act.put, List.setIfInBounds_toArray, List.set]
 refine wpAnyH_take (i := 3) (oi := { dst := some 32, op := Op.move (Operand.tmp 4), type := 30, pos := "compile.go:19", after := #[], guard := none }) (v := .int .i32 c) rfl (by kernel_rfl) (by kernel_rfl) (by kernel_rfl) (fun _ _ _ h => h) (Or.inl ⟨by rfl, fun wz hSw => by go_simp⟩) hHeld ?_
 simp only [Act.put, List.setIfInBounds_toArray, List.set]
 refine wpAnyH_ready (rs := [4]) (by kernel_rfl) (by simp) ?_
 refine AllReadyH.cons (o := { dst := some 33, op := Op.call { callee := Callee.value (Operand.func 29), args := #[Operand.tmp 30, Operand.tmp 31, Operand.tmp 32], argTypes := #[21, 2, 30] }, type := 42, pos := "compile.go:19", after := #[{ on := 1, ground := Ground.data }, { on := 2, ground := Ground.data }, { on := 3, ground := Ground.data }], guard := none }) rfl (fun K hK => ?_) AllReadyH.nil
 go_simp
 refine (pfailed_any x z c _).mono ?_
 rintro e w1 ⟨rfl, hb1⟩
 have hz1' : w1.heap[w.heap.size]? = some (.cells ZP29a1 35 (0, 0)) := (hb1.block w.heap.size hlt0).trans hz1
 have hz2' : w1.heap[w.heap.size + 1]? = some (.cells ZP29a2 42 (0, 0)) := (hb1.block (w.heap.size + 1) hlt1).trans hz2
 have hD' : w1.heap[w.heap.size + 2]? = some (.cells ([v, .int .i32 x, .int .i64 z, .int .i64 t] ++ errTxn (-1) c).toArray 35 (0, 0)) := (hb1.block (w.heap.size + 2) hlt).trans HD.out
 have hbw : Below w.heap.size w w1 := hb0.drew.trans (hb1.mono hb0.size)
 clear hHeld hb1 hz1 hz2
 refine hK.out _ _ hD' (fun hHeld => ?_)
 clear hK K
 simp only [List.setIfInBounds_toArray, List.set]
 refine wpAnyH_ready (rs := [5]) (by kernel_rfl) (by simp) ?_
 refine AllReadyH.cons (o := { dst := none, op := Op.store 35 (Operand.tmp 10) (Operand.tmp 29), type := 0, pos := "compile.go:19", after := #[{ on := 0, ground := Ground.data }, { on := 4, ground := Ground.chain }, { on := 0, ground := Ground.phase }, { on := 1, ground := Ground.textOnly Departure.lateStores }, { on := 2, ground := Ground.textOnly Departure.lateStores }, { on := 3, ground := Ground.textOnly Departure.lateStores }, { on := 4, ground := Ground.textOnly Departure.lateStoresUnsure }], guard := none }) rfl (fun K hK => ?_) AllReadyH.nil
 refine step_store_row rfl 35 (.tmp 10) (.tmp 29) rfl w.heap.size ([v, .int .i32 x, .int .i64 z, .int .i64 t] ++ errTxn (-1) c).toArray (by rfl) (by rfl) 35 _ hz1' HI.out rfl HO1.out ?_
 have hr1 := setRow_heap w1 w.heap.size _ ([v, .int .i32 x, .int .i64 z, .int .i64 t] ++ errTxn (-1) c).toArray 35 (0, 0) hz1'
 have hD2 : (w1.setRow w.heap.size ([v, .int .i32 x, .int .i64 z, .int .i64 t] ++ errTxn (-1) c).toArray).heap[w.heap.size + 2]? = some (.cells ([v, .int .i32 x, .int .i64 z, .int .i64 t] ++ errTxn (-1) c).toArray 35 (0, 0)) := by rw [setRow_apart _ _ _ _ (by omega)]; exact hD'
 have hz2'' : (w1.setRow w.heap.size ([v, .int .i32 x, .int .i64 z, .int .i64 t] ++ errTxn (-1) c).toArray).heap[w.heap.size + 1]? = some (.cells ZP29a2 42 (0, 0)) := by rw [setRow_apart _ _ _ _ (by omega)]; exact hz2'
 have hbw2 := below_setRow hbw (g := w.heap.size) (Nat.le_refl _) ([v, .int .i32 x, .int .i64 z, .int .i64 t] ++ errTxn (-1) c).toArray
 clear hHeld
 refine hK.out _ _ hD2 (fun hHeld => ?_)
 clear hK K
 simp only [Act.put, List.setIfInBounds_toArray, List.set]
 refine wpAnyH_ready (rs := [6]) (by kernel_rfl) (by simp) ?_
 refine AllReadyH.cons (o := { dst := none, op := Op.store 42 (Operand.tmp 11) (Operand.tmp 33), type := 0, pos := "compile.go:19", after := #[{ on := 4, ground := Ground.data }, { on := 5, ground := Ground.chain }, { on := 0, ground := Ground.phase }, { on := 1, ground := Ground.phase }, { on := 2, ground := Ground.phase }, { on := 3, ground := Ground.phase }, { on := 4, ground := Ground.phase }, { on := 5, ground := Ground.phase }], guard := none }) rfl (fun K hK => ?_) AllReadyH.nil
 refine step_store_row rfl 42 (.tmp 11) (.tmp 33) rfl (w.heap.size + 1) (preR x z c ++ zResL).toArray (by rfl) (by rfl) 42 _ hz2'' HJ.out rfl HO2.out ?_
 have hr2 := setRow_heap (w1.setRow w.heap.size ([v, .int .i32 x, .int .i64 z, .int .i64 t] ++ errTxn (-1) c).toArray) (w.heap.size + 1) _ (preR x z c ++ zResL).toArray 42 (0, 0) hz2''
 have hD3 : ((w1.setRow w.heap.size ([v, .int .i32 x, .int .i64 z, .int .i64 t] ++ errTxn (-1) c).toArray).setRow (w.heap.size + 1) (preR x z c ++ zResL).toArray).heap[w.heap.size + 2]? = some (.cells ([v, .int .i32 x, .int .i64 z, .int .i64 t] ++ errTxn (-1) c).toArray 35 (0, 0)) := by rw [setRow_apart _ _ _ _ (by omega)]; exact hD2
 have hr1' : ((w1.setRow w.heap.size ([v, .int .i32 x, .int .i64 z, .int .i64 t] ++ errTxn (-1) c).toArray).setRow (w.heap.size + 1) (preR x z c ++ zResL).toArray).heap[w.heap.size]? = some (.cells ([v, .int .i32 x, .int .i64 z, .int .i64 t] ++ errTxn (-1) c).toArray 35 (0, 0)) := by rw [setRow_apart _ _ _ _ (by omega)]; exact hr1
 have hbw3 := below_setRow hbw2 (g := w.heap.size + 1) (by omega) (preR x z c ++ zResL).toArray
 clear hHeld
 refine hK.out _ _ hD3 (fun hHeld => ?_)
 clear hK K
 simp only [Act.put, List.setIfInBounds_toArray, List.set]
 refine wpAnyH_take (i := 7) (oi := { dst := some 12, op := Op.assign (Operand.const (Value.int IntKind.i64 0)), type := 45, pos := "compile.go:19", after := #[{ on := 6, ground := Ground.chain }, { on := 0, ground := Ground.phase }, { on := 1, ground := Ground.phase }, { on := 2, ground := Ground.phase }, { on := 3, ground := Ground.phase }, { on := 4, ground := Ground.phase }, { on := 5, ground := Ground.phase }, { on := 6, ground := Ground.phase }], guard := none }) (v := .int .i64 0) rfl (by kernel_rfl) (by kernel_rfl) (by kernel_rfl) (fun _ _ _ h => h) (Or.inl ⟨by rfl, fun wz hSw => by go_simp⟩) hHeld ?_
 simp only [Act.put, List.setIfInBounds_toArray, List.set]
 refine wpAnyH_done (by kernel_rfl) ?_ _
 go_wp2
 refine bodyPost_ret (results_three rfl _ _ w.heap.size (w.heap.size + 1) 35 42 _ _ (0, 0) (0, 0) _ _ (.int .i64 0) rfl hr1' Tryz.underlying35 rfl HI.out rfl hr2 Tryz.underlying42 rfl HJ.out rfl) rfl ?_
 exact ⟨fun _ => False, _, _, rfl, errTxn_r _ _ (-1) c, zRes_r _ _, fun _ h => h.elim, hbw3⟩
end Go.Proofs.YtfgjiidbafdndaaGreatDoor
