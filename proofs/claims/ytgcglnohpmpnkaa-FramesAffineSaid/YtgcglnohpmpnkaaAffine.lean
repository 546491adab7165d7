/- The walk of FramesAffine: the four ways to the least length. -/
import Derived.Test.YtgcglnohpmpnkaaW8
import Derived.Deep.RegionHeld3
namespace Go.Proofs.Ytgcglnohpmpnkaa
open Go.RowKit

theorem u8_xor_bv (x y : UInt8) : bits .xor .u8 (x.toNat : Int) (y.toNat : Int) = ((x ^^^ y).toNat : Int) := by
  rw [UInt8.toNat_xor]; exact u8_xor_nat _ _ x.toNat_lt y.toNat_lt

theorem rd_one (w : World) (u : Value) (e : TypeId) : Rd (w.alloc (.cells #[u] e)) (some ⟨w.heap.size, 0, none⟩) 1 [u] := by
  refine ⟨rfl, fun _ => ⟨w.heap.size, 0, rfl, fun k v hv => ?_⟩⟩
  rw [cell_of_row _ w.heap.size _ _ _ _ (heap_alloc_new w _)]
  match k, hv with
  | 0, hv => simpa using hv
theorem rd_one_drew (w : World) (u : Value) (e : TypeId) : Rd (w.alloc (.cells #[u] e)).drew (some ⟨w.heap.size, 0, none⟩) 1 [u] := (rd_one w u e).drew
set_option maxHeartbeats 1000000 in
theorem affine_1 (A B C : Option Addr) (n m p ca cb cc k : Nat) (a b c : List UInt8) (w : World) (ha : BS w A n ca a) (hb : BS w B m cb b) (hc : BS w C p cc c)
    (_t1 : decide (m < n) = true) (t2 : decide (p < m) = true) (g1 : m < n) (g2 : p < m) (hk : k = p) :
    Calls Try.prog 3 #[.slice A n ca, .slice B m cb, .slice C p cc] w fun e w' => e = .returned (.bool true) ∧ Below w.heap.size w w' := by
  have hn := ha.rb.2.1
  have hm := hb.rb.2.1
  have hp := hc.rb.2.1
  have e1 : k ≤ n := by omega
  have e2 : k ≤ m := by omega
  have e3 : k ≤ p := by omega
  obtain rfl := hk
  go_enter Try.func3, Try.ntmps3
  go_wp2_with (go_at_call 11; refine (live_any _).mono ?_; rintro e w1 ⟨rfl, hb1⟩)
  go_loopw [8, 9] (fun v i wr => ∃ j : Nat, j ≤ k ∧ i = .int .i64 j ∧ wr.ownsRow w.heap.size 5 1 v j (bl (xor3 a b c j)) ∧ Below w.heap.size w wr) (fun _ i _ => k - (intOf i).toNat)
  case atStart => exact ⟨0, by omega, rfl, World.ownsRow_nil _ _ _ _, hb1⟩
  case round =>
    obtain ⟨j, hj, rfl, hown, hbel⟩ := hrel
    by_cases hlt : j < k
    · have q1 := Nat.lt_of_lt_of_le hlt e1
      have q2 := Nat.lt_of_lt_of_le hlt e2
      have q3 := Nat.lt_of_lt_of_le hlt e3
      obtain ⟨ba, oa, rfl, d1⟩ := ha.rb.at_ q1
      obtain ⟨bb, ob, rfl, d2⟩ := hb.rb.at_ q2
      obtain ⟨bc, oc, rfl, d3⟩ := hc.rb.at_ q3
      have HX := Lib.hid (show xor3 a b c (j + 1) = xor3 a b c j ++ [(a.getD j 0 ^^^ b.getD j 0) ^^^ c.getD j 0] from rfl)
      generalize a.getD j 0 = x at *
      generalize b.getD j 0 = y at *
      generalize c.getD j 0 = z at *
      have f1 := fun (W : World) (hW : Below w.heap.size w W) => (hW.cell (World.block_lt_of_cell? w _ d1)).trans d1
      have f2 := fun (W : World) (hW : Below w.heap.size w W) => (hW.cell (World.block_lt_of_cell? w _ d2)).trans d2
      have f3 := fun (W : World) (hW : Below w.heap.size w W) => (hW.cell (World.block_lt_of_cell? w _ d3)).trans d3
      have c1 := f1 _ hbel
      have c2 := f2 _ hbel
      have c3 := f3 _ hbel
      have F1 := Lib.hid f1
      have F2 := Lib.hid f2
      have F3 := Lib.hid f3
      clear f1 f2 f3 d1 d2 d3
      go_wp2
      go_region_held3 (fun w' => w'.cell? ⟨ba, oa + j, none⟩ = some (.int .u8 x.toNat) ∧ w'.cell? ⟨bb, ob + j, none⟩ = some (.int .u8 y.toNat) ∧ w'.cell? ⟨bc, oc + j, none⟩ = some (.int .u8 z.toNat))
        (first | go_keep)
        ((refine step_app sB (by rfl) (.tmp 31) (.tmp 46) (by rfl) w.heap.size _ j _ (by rfl) ((hown.alloc _).drew) _ 1 1 _ (by rfl) (rd_one_drew _ _ _) (by intro h; omega) (by simp [Value.oneCell']) (by unfold maxLen; omega) (by omega) (by have := hbel.size; simp; omega) ?_; intro v1 w1' hown1 hg1 hat1; have hbel1 := below_app ((hbel.alloc hbel.size _).drew) hg1 ((hown.alloc _).drew) (Nat.le_refl _) (by have := hbel.size; simp; omega); have k1 := F1.out _ hbel1; have k2 := F2.out _ hbel1; have k3 := F3.out _ hbel1))
      go_wp2
      go_roundw
      case rel => exact ⟨j + 1, by omega, by go_num, by rw [HX.out, bl_append, show bl [x ^^^ y ^^^ z] = [Value.int IntKind.u8 (bits BinOp.xor IntKind.u8 (bits BinOp.xor IntKind.u8 (x.toNat : Int) (y.toNat : Int)) (z.toNat : Int))] from by rw [u8_xor_bv, u8_xor_bv]; rfl]; exact hown1, hbel1⟩
      case measure => simp [intOf]; omega
    · obtain rfl : j = k := by omega
      obtain ⟨Ad, cd, rfl, hd⟩ := own_bs hown (by omega)
      have r1 := ((ha.below hbel).upto j e1).rb
      have r2 := ((hb.below hbel).upto j e2).rb
      have r3 := ((hc.below hbel).upto j e3).rb
      have r4 := hd.rb
      have s1 := fun len => run_sub_h sB A len ca (j : Int) j rfl (Nat.le_trans e1 ha.le)
      have s2 := fun len => run_sub_h sB B len cb (j : Int) j rfl (Nat.le_trans e2 hb.le)
      have s3 := fun len => run_sub_h sB C len cc (j : Int) j rfl (Nat.le_trans e3 hc.le)
      have HZ : (bits .xor .u32 (bits .xor .u32 (bits .xor .u32 ((crc (a.take j)).toNat : Int) ((crc (b.take j)).toNat : Int)) ((crc (c.take j)).toNat : Int)) ((crc (xor3 a b c j)).toNat : Int) == 0) = true := by
        rw [bits_xor_bv, bits_xor_bv, bits_xor_bv, crc_affine a b c j (by have := ha.rb.1; omega) (by have := hb.rb.1; omega) (by have := hc.rb.1; omega)]
        rfl
      go_wp2
      go_quiet ((first
        | (go_at_call 12; with_reducible exact q0_same (sum_any A j ca _ _ (r1.drewN _)))
        | (go_at_call 12; with_reducible exact q0_same (sum_any B j cb _ _ (r2.drewN _)))
        | (go_at_call 12; with_reducible exact q0_same (sum_any C j cc _ _ (r3.drewN _)))
        | (go_at_call 12; with_reducible exact q0_same (sum_any Ad j cd _ _ (r4.drewN _)))))
      go_wp2
      go_ret
      exact ⟨rfl, below_drewN hbel _⟩

set_option maxHeartbeats 1000000 in
theorem affine_2 (A B C : Option Addr) (n m p ca cb cc k : Nat) (a b c : List UInt8) (w : World) (ha : BS w A n ca a) (hb : BS w B m cb b) (hc : BS w C p cc c)
    (t1 : decide (m < n) = true) (t2 : decide (p < m) = false) (g1 : m < n) (g2 : m ≤ p) (hk : k = m) :
    Calls Try.prog 3 #[.slice A n ca, .slice B m cb, .slice C p cc] w fun e w' => e = .returned (.bool true) ∧ Below w.heap.size w w' := by
  have hn := ha.rb.2.1
  have hm := hb.rb.2.1
  have hp := hc.rb.2.1
  have e1 : k ≤ n := by omega
  have e2 : k ≤ m := by omega
  have e3 : k ≤ p := by omega
  obtain rfl := hk
  go_enter Try.func3, Try.ntmps3
  go_wp2_with (go_at_call 11; refine (live_any _).mono ?_; rintro e w1 ⟨rfl, hb1⟩)
  go_loopw [8, 9] (fun v i wr => ∃ j : Nat, j ≤ k ∧ i = .int .i64 j ∧ wr.ownsRow w.heap.size 5 1 v j (bl (xor3 a b c j)) ∧ Below w.heap.size w wr) (fun _ i _ => k - (intOf i).toNat)
  case atStart => exact ⟨0, by omega, rfl, World.ownsRow_nil _ _ _ _, hb1⟩
  case round =>
    obtain ⟨j, hj, rfl, hown, hbel⟩ := hrel
    by_cases hlt : j < k
    · have q1 := Nat.lt_of_lt_of_le hlt e1
      have q2 := Nat.lt_of_lt_of_le hlt e2
      have q3 := Nat.lt_of_lt_of_le hlt e3
      obtain ⟨ba, oa, rfl, d1⟩ := ha.rb.at_ q1
      obtain ⟨bb, ob, rfl, d2⟩ := hb.rb.at_ q2
      obtain ⟨bc, oc, rfl, d3⟩ := hc.rb.at_ q3
      have HX := Lib.hid (show xor3 a b c (j + 1) = xor3 a b c j ++ [(a.getD j 0 ^^^ b.getD j 0) ^^^ c.getD j 0] from rfl)
      generalize a.getD j 0 = x at *
      generalize b.getD j 0 = y at *
      generalize c.getD j 0 = z at *
      have f1 := fun (W : World) (hW : Below w.heap.size w W) => (hW.cell (World.block_lt_of_cell? w _ d1)).trans d1
      have f2 := fun (W : World) (hW : Below w.heap.size w W) => (hW.cell (World.block_lt_of_cell? w _ d2)).trans d2
      have f3 := fun (W : World) (hW : Below w.heap.size w W) => (hW.cell (World.block_lt_of_cell? w _ d3)).trans d3
      have c1 := f1 _ hbel
      have c2 := f2 _ hbel
      have c3 := f3 _ hbel
      have F1 := Lib.hid f1
      have F2 := Lib.hid f2
      have F3 := Lib.hid f3
      clear f1 f2 f3 d1 d2 d3
      go_wp2
      go_region_held3 (fun w' => w'.cell? ⟨ba, oa + j, none⟩ = some (.int .u8 x.toNat) ∧ w'.cell? ⟨bb, ob + j, none⟩ = some (.int .u8 y.toNat) ∧ w'.cell? ⟨bc, oc + j, none⟩ = some (.int .u8 z.toNat))
        (first | go_keep)
        ((refine step_app sB (by rfl) (.tmp 31) (.tmp 46) (by rfl) w.heap.size _ j _ (by rfl) ((hown.alloc _).drew) _ 1 1 _ (by rfl) (rd_one_drew _ _ _) (by intro h; omega) (by simp [Value.oneCell']) (by unfold maxLen; omega) (by omega) (by have := hbel.size; simp; omega) ?_; intro v1 w1' hown1 hg1 hat1; have hbel1 := below_app ((hbel.alloc hbel.size _).drew) hg1 ((hown.alloc _).drew) (Nat.le_refl _) (by have := hbel.size; simp; omega); have k1 := F1.out _ hbel1; have k2 := F2.out _ hbel1; have k3 := F3.out _ hbel1))
      go_wp2
      go_roundw
      case rel => exact ⟨j + 1, by omega, by go_num, by rw [HX.out, bl_append, show bl [x ^^^ y ^^^ z] = [Value.int IntKind.u8 (bits BinOp.xor IntKind.u8 (bits BinOp.xor IntKind.u8 (x.toNat : Int) (y.toNat : Int)) (z.toNat : Int))] from by rw [u8_xor_bv, u8_xor_bv]; rfl]; exact hown1, hbel1⟩
      case measure => simp [intOf]; omega
    · obtain rfl : j = k := by omega
      obtain ⟨Ad, cd, rfl, hd⟩ := own_bs hown (by omega)
      have r1 := ((ha.below hbel).upto j e1).rb
      have r2 := ((hb.below hbel).upto j e2).rb
      have r3 := ((hc.below hbel).upto j e3).rb
      have r4 := hd.rb
      have s1 := fun len => run_sub_h sB A len ca (j : Int) j rfl (Nat.le_trans e1 ha.le)
      have s2 := fun len => run_sub_h sB B len cb (j : Int) j rfl (Nat.le_trans e2 hb.le)
      have s3 := fun len => run_sub_h sB C len cc (j : Int) j rfl (Nat.le_trans e3 hc.le)
      have HZ : (bits .xor .u32 (bits .xor .u32 (bits .xor .u32 ((crc (a.take j)).toNat : Int) ((crc (b.take j)).toNat : Int)) ((crc (c.take j)).toNat : Int)) ((crc (xor3 a b c j)).toNat : Int) == 0) = true := by
        rw [bits_xor_bv, bits_xor_bv, bits_xor_bv, crc_affine a b c j (by have := ha.rb.1; omega) (by have := hb.rb.1; omega) (by have := hc.rb.1; omega)]
        rfl
      go_wp2
      go_quiet ((first
        | (go_at_call 12; with_reducible exact q0_same (sum_any A j ca _ _ (r1.drewN _)))
        | (go_at_call 12; with_reducible exact q0_same (sum_any B j cb _ _ (r2.drewN _)))
        | (go_at_call 12; with_reducible exact q0_same (sum_any C j cc _ _ (r3.drewN _)))
        | (go_at_call 12; with_reducible exact q0_same (sum_any Ad j cd _ _ (r4.drewN _)))))
      go_wp2
      go_ret
      exact ⟨rfl, below_drewN hbel _⟩

set_option maxHeartbeats 1000000 in
theorem affine_3 (A B C : Option Addr) (n m p ca cb cc k : Nat) (a b c : List UInt8) (w : World) (ha : BS w A n ca a) (hb : BS w B m cb b) (hc : BS w C p cc c)
    (t1 : decide (m < n) = false) (t2 : decide (p < n) = true) (g1 : n ≤ m) (g2 : p < n) (hk : k = p) :
    Calls Try.prog 3 #[.slice A n ca, .slice B m cb, .slice C p cc] w fun e w' => e = .returned (.bool true) ∧ Below w.heap.size w w' := by
  have hn := ha.rb.2.1
  have hm := hb.rb.2.1
  have hp := hc.rb.2.1
  have e1 : k ≤ n := by omega
  have e2 : k ≤ m := by omega
  have e3 : k ≤ p := by omega
  obtain rfl := hk
  go_enter Try.func3, Try.ntmps3
  go_wp2_with (go_at_call 11; refine (live_any _).mono ?_; rintro e w1 ⟨rfl, hb1⟩)
  go_loopw [8, 9] (fun v i wr => ∃ j : Nat, j ≤ k ∧ i = .int .i64 j ∧ wr.ownsRow w.heap.size 5 1 v j (bl (xor3 a b c j)) ∧ Below w.heap.size w wr) (fun _ i _ => k - (intOf i).toNat)
  case atStart => exact ⟨0, by omega, rfl, World.ownsRow_nil _ _ _ _, hb1⟩
  case round =>
    obtain ⟨j, hj, rfl, hown, hbel⟩ := hrel
    by_cases hlt : j < k
    · have q1 := Nat.lt_of_lt_of_le hlt e1
      have q2 := Nat.lt_of_lt_of_le hlt e2
      have q3 := Nat.lt_of_lt_of_le hlt e3
      obtain ⟨ba, oa, rfl, d1⟩ := ha.rb.at_ q1
      obtain ⟨bb, ob, rfl, d2⟩ := hb.rb.at_ q2
      obtain ⟨bc, oc, rfl, d3⟩ := hc.rb.at_ q3
      have HX := Lib.hid (show xor3 a b c (j + 1) = xor3 a b c j ++ [(a.getD j 0 ^^^ b.getD j 0) ^^^ c.getD j 0] from rfl)
      generalize a.getD j 0 = x at *
      generalize b.getD j 0 = y at *
      generalize c.getD j 0 = z at *
      have f1 := fun (W : World) (hW : Below w.heap.size w W) => (hW.cell (World.block_lt_of_cell? w _ d1)).trans d1
      have f2 := fun (W : World) (hW : Below w.heap.size w W) => (hW.cell (World.block_lt_of_cell? w _ d2)).trans d2
      have f3 := fun (W : World) (hW : Below w.heap.size w W) => (hW.cell (World.block_lt_of_cell? w _ d3)).trans d3
      have c1 := f1 _ hbel
      have c2 := f2 _ hbel
      have c3 := f3 _ hbel
      have F1 := Lib.hid f1
      have F2 := Lib.hid f2
      have F3 := Lib.hid f3
      clear f1 f2 f3 d1 d2 d3
      go_wp2
      go_region_held3 (fun w' => w'.cell? ⟨ba, oa + j, none⟩ = some (.int .u8 x.toNat) ∧ w'.cell? ⟨bb, ob + j, none⟩ = some (.int .u8 y.toNat) ∧ w'.cell? ⟨bc, oc + j, none⟩ = some (.int .u8 z.toNat))
        (first | go_keep)
        ((refine step_app sB (by rfl) (.tmp 31) (.tmp 46) (by rfl) w.heap.size _ j _ (by rfl) ((hown.alloc _).drew) _ 1 1 _ (by rfl) (rd_one_drew _ _ _) (by intro h; omega) (by simp [Value.oneCell']) (by unfold maxLen; omega) (by omega) (by have := hbel.size; simp; omega) ?_; intro v1 w1' hown1 hg1 hat1; have hbel1 := below_app ((hbel.alloc hbel.size _).drew) hg1 ((hown.alloc _).drew) (Nat.le_refl _) (by have := hbel.size; simp; omega); have k1 := F1.out _ hbel1; have k2 := F2.out _ hbel1; have k3 := F3.out _ hbel1))
      go_wp2
      go_roundw
      case rel => exact ⟨j + 1, by omega, by go_num, by rw [HX.out, bl_append, show bl [x ^^^ y ^^^ z] = [Value.int IntKind.u8 (bits BinOp.xor IntKind.u8 (bits BinOp.xor IntKind.u8 (x.toNat : Int) (y.toNat : Int)) (z.toNat : Int))] from by rw [u8_xor_bv, u8_xor_bv]; rfl]; exact hown1, hbel1⟩
      case measure => simp [intOf]; omega
    · obtain rfl : j = k := by omega
      obtain ⟨Ad, cd, rfl, hd⟩ := own_bs hown (by omega)
      have r1 := ((ha.below hbel).upto j e1).rb
      have r2 := ((hb.below hbel).upto j e2).rb
      have r3 := ((hc.below hbel).upto j e3).rb
      have r4 := hd.rb
      have s1 := fun len => run_sub_h sB A len ca (j : Int) j rfl (Nat.le_trans e1 ha.le)
      have s2 := fun len => run_sub_h sB B len cb (j : Int) j rfl (Nat.le_trans e2 hb.le)
      have s3 := fun len => run_sub_h sB C len cc (j : Int) j rfl (Nat.le_trans e3 hc.le)
      have HZ : (bits .xor .u32 (bits .xor .u32 (bits .xor .u32 ((crc (a.take j)).toNat : Int) ((crc (b.take j)).toNat : Int)) ((crc (c.take j)).toNat : Int)) ((crc (xor3 a b c j)).toNat : Int) == 0) = true := by
        rw [bits_xor_bv, bits_xor_bv, bits_xor_bv, crc_affine a b c j (by have := ha.rb.1; omega) (by have := hb.rb.1; omega) (by have := hc.rb.1; omega)]
        rfl
      go_wp2
      go_quiet ((first
        | (go_at_call 12; with_reducible exact q0_same (sum_any A j ca _ _ (r1.drewN _)))
        | (go_at_call 12; with_reducible exact q0_same (sum_any B j cb _ _ (r2.drewN _)))
        | (go_at_call 12; with_reducible exact q0_same (sum_any C j cc _ _ (r3.drewN _)))
        | (go_at_call 12; with_reducible exact q0_same (sum_any Ad j cd _ _ (r4.drewN _)))))
      go_wp2
      go_ret
      exact ⟨rfl, below_drewN hbel _⟩

set_option maxHeartbeats 1000000 in
theorem affine_4 (A B C : Option Addr) (n m p ca cb cc k : Nat) (a b c : List UInt8) (w : World) (ha : BS w A n ca a) (hb : BS w B m cb b) (hc : BS w C p cc c)
    (t1 : decide (m < n) = false) (t2 : decide (p < n) = false) (g1 : n ≤ m) (g2 : n ≤ p) (hk : k = n) :
    Calls Try.prog 3 #[.slice A n ca, .slice B m cb, .slice C p cc] w fun e w' => e = .returned (.bool true) ∧ Below w.heap.size w w' := by
  have hn := ha.rb.2.1
  have hm := hb.rb.2.1
  have hp := hc.rb.2.1
  have e1 : k ≤ n := by omega
  have e2 : k ≤ m := by omega
  have e3 : k ≤ p := by omega
  obtain rfl := hk
  go_enter Try.func3, Try.ntmps3
  go_wp2_with (go_at_call 11; refine (live_any _).mono ?_; rintro e w1 ⟨rfl, hb1⟩)
  go_loopw [8, 9] (fun v i wr => ∃ j : Nat, j ≤ k ∧ i = .int .i64 j ∧ wr.ownsRow w.heap.size 5 1 v j (bl (xor3 a b c j)) ∧ Below w.heap.size w wr) (fun _ i _ => k - (intOf i).toNat)
  case atStart => exact ⟨0, by omega, rfl, World.ownsRow_nil _ _ _ _, hb1⟩
  case round =>
    obtain ⟨j, hj, rfl, hown, hbel⟩ := hrel
    by_cases hlt : j < k
    · have q1 := Nat.lt_of_lt_of_le hlt e1
      have q2 := Nat.lt_of_lt_of_le hlt e2
      have q3 := Nat.lt_of_lt_of_le hlt e3
      obtain ⟨ba, oa, rfl, d1⟩ := ha.rb.at_ q1
      obtain ⟨bb, ob, rfl, d2⟩ := hb.rb.at_ q2
      obtain ⟨bc, oc, rfl, d3⟩ := hc.rb.at_ q3
      have HX := Lib.hid (show xor3 a b c (j + 1) = xor3 a b c j ++ [(a.getD j 0 ^^^ b.getD j 0) ^^^ c.getD j 0] from rfl)
      generalize a.getD j 0 = x at *
      generalize b.getD j 0 = y at *
      generalize c.getD j 0 = z at *
      have f1 := fun (W : World) (hW : Below w.heap.size w W) => (hW.cell (World.block_lt_of_cell? w _ d1)).trans d1
      have f2 := fun (W : World) (hW : Below w.heap.size w W) => (hW.cell (World.block_lt_of_cell? w _ d2)).trans d2
      have f3 := fun (W : World) (hW : Below w.heap.size w W) => (hW.cell (World.block_lt_of_cell? w _ d3)).trans d3
      have c1 := f1 _ hbel
      have c2 := f2 _ hbel
      have c3 := f3 _ hbel
      have F1 := Lib.hid f1
      have F2 := Lib.hid f2
      have F3 := Lib.hid f3
      clear f1 f2 f3 d1 d2 d3
      go_wp2
      go_region_held3 (fun w' => w'.cell? ⟨ba, oa + j, none⟩ = some (.int .u8 x.toNat) ∧ w'.cell? ⟨bb, ob + j, none⟩ = some (.int .u8 y.toNat) ∧ w'.cell? ⟨bc, oc + j, none⟩ = some (.int .u8 z.toNat))
        (first | go_keep)
        ((refine step_app sB (by rfl) (.tmp 31) (.tmp 46) (by rfl) w.heap.size _ j _ (by rfl) ((hown.alloc _).drew) _ 1 1 _ (by rfl) (rd_one_drew _ _ _) (by intro h; omega) (by simp [Value.oneCell']) (by unfold maxLen; omega) (by omega) (by have := hbel.size; simp; omega) ?_; intro v1 w1' hown1 hg1 hat1; have hbel1 := below_app ((hbel.alloc hbel.size _).drew) hg1 ((hown.alloc _).drew) (Nat.le_refl _) (by have := hbel.size; simp; omega); have k1 := F1.out _ hbel1; have k2 := F2.out _ hbel1; have k3 := F3.out _ hbel1))
      go_wp2
      go_roundw
      case rel => exact ⟨j + 1, by omega, by go_num, by rw [HX.out, bl_append, show bl [x ^^^ y ^^^ z] = [Value.int IntKind.u8 (bits BinOp.xor IntKind.u8 (bits BinOp.xor IntKind.u8 (x.toNat : Int) (y.toNat : Int)) (z.toNat : Int))] from by rw [u8_xor_bv, u8_xor_bv]; rfl]; exact hown1, hbel1⟩
      case measure => simp [intOf]; omega
    · obtain rfl : j = k := by omega
      obtain ⟨Ad, cd, rfl, hd⟩ := own_bs hown (by omega)
      have r1 := ((ha.below hbel).upto j e1).rb
      have r2 := ((hb.below hbel).upto j e2).rb
      have r3 := ((hc.below hbel).upto j e3).rb
      have r4 := hd.rb
      have s1 := fun len => run_sub_h sB A len ca (j : Int) j rfl (Nat.le_trans e1 ha.le)
      have s2 := fun len => run_sub_h sB B len cb (j : Int) j rfl (Nat.le_trans e2 hb.le)
      have s3 := fun len => run_sub_h sB C len cc (j : Int) j rfl (Nat.le_trans e3 hc.le)
      have HZ : (bits .xor .u32 (bits .xor .u32 (bits .xor .u32 ((crc (a.take j)).toNat : Int) ((crc (b.take j)).toNat : Int)) ((crc (c.take j)).toNat : Int)) ((crc (xor3 a b c j)).toNat : Int) == 0) = true := by
        rw [bits_xor_bv, bits_xor_bv, bits_xor_bv, crc_affine a b c j (by have := ha.rb.1; omega) (by have := hb.rb.1; omega) (by have := hc.rb.1; omega)]
        rfl
      go_wp2
      go_quiet ((first
        | (go_at_call 12; with_reducible exact q0_same (sum_any A j ca _ _ (r1.drewN _)))
        | (go_at_call 12; with_reducible exact q0_same (sum_any B j cb _ _ (r2.drewN _)))
        | (go_at_call 12; with_reducible exact q0_same (sum_any C j cc _ _ (r3.drewN _)))
        | (go_at_call 12; with_reducible exact q0_same (sum_any Ad j cd _ _ (r4.drewN _)))))
      go_wp2
      go_ret
      exact ⟨rfl, below_drewN hbel _⟩

theorem affine_walk (A B C : Option Addr) (n m p ca cb cc : Nat) (a b c : List UInt8) (w : World) (ha : BS w A n ca a) (hb : BS w B m cb b) (hc : BS w C p cc c) :
    Calls Try.prog 3 #[.slice A n ca, .slice B m cb, .slice C p cc] w fun e w' => e = .returned (.bool true) ∧ Below w.heap.size w w' := by
  by_cases g1 : m < n
  · by_cases g2 : p < m
    · exact affine_1 A B C n m p ca cb cc p a b c w ha hb hc (decide_eq_true g1) (decide_eq_true g2) g1 g2 rfl
    · exact affine_2 A B C n m p ca cb cc m a b c w ha hb hc (decide_eq_true g1) (decide_eq_false g2) g1 (by omega) rfl
  · by_cases g2 : p < n
    · exact affine_3 A B C n m p ca cb cc p a b c w ha hb hc (decide_eq_false g1) (decide_eq_true g2) (by omega) g2 rfl
    · exact affine_4 A B C n m p ca cb cc n a b c w ha hb hc (decide_eq_false g1) (decide_eq_false g2) (by omega) (by omega) rfl
end Go.Proofs.Ytgcglnohpmpnkaa
