/- Contracts: sessions, as the program tells them. -/
import Derived.Test.YtfgjiidbafdndaaGreatDoorK9
namespace Go.Proofs.YtfgjiidbafdndaaGreatDoor
open Go.RowKit
set_option maxHeartbeats 4000000
theorem SlR.takeRows {A : Nat → Prop} {w : World} {sz n c : Nat} {a : Option Addr} {rows : List (List Value)} (h : SlR A w sz (.slice a n c) rows) (k : Nat) (hk : k ≤ n) : SlR A w sz (.slice a k c) (rows.take k) := by
 obtain ⟨⟨a', n', c', h1, h2, h3, h4, h5, ⟨h6, h6'⟩, h7⟩, h8⟩ := h
 cases h1
 refine ⟨⟨a, k, c, rfl, by rw [List.length_take]; omega, by omega, h4, h5, ⟨?_, fun h0 => ?_⟩, fun h0 => h7 (by omega)⟩, fun r hr => h8 r (List.mem_of_mem_take hr)⟩
 ·rw [flat_length (fun r hr => h8 r (List.mem_of_mem_take hr)), List.length_take]
  congr 1; omega
 ·obtain ⟨b, o, hb, hc⟩ := h6' (by omega)
  refine ⟨b, o, hb, fun j u hu => hc j u ?_⟩
  rw [← List.take_append_drop k rows, List.flatten_append]
  rw [List.getElem?_append_left (List.getElem?_eq_some_iff.1 hu).1]; exact hu
theorem psess_any (l : List IdD) (sid tmo : Int) (A : Nat → Prop) (v : Value) (w : World) (h : SlR A w 2 v (l.map IdD.cells)) (hA : ∀ b, A b → b < w.heap.size) (hm : l.length ≤ 1048576) (hz : ∀ x ∈ l, x.scheme.size ≤ 1048576 ∧ x.id.size ≤ 1048576) (G : Glob w) :
  Calls Tryz.prog 109 #[.agg #[.int .i64 sid, .int .i32 tmo, v]] w fun e w' => e = .returned (.bool (sessD sid tmo l)) ∧ Below w.heap.size w w' := by
 obtain ⟨n, hn⟩ : ∃ n, l.length = n := ⟨_, rfl⟩
 obtain ⟨s, q, rfl⟩ := h.len'
 rw [List.length_map, hn] at h ⊢
 rw [hn] at hm
 obtain ⟨R, hR⟩ : ∃ R, sessD sid tmo l = R := ⟨_, rfl⟩
 rw [hR]
 unfold sessD at hR
 rw [hn] at hR
 have HN := Lib.hid hn
 clear hn
 have hb0 : Below w.heap.size w (w.alloc (.cells #[.int .i64 sid, .int .i32 tmo, .slice s n q] 28)) := (Below.refl _ _).alloc (Nat.le_refl _) _
 have hlt0 : w.heap.size < (w.alloc (.cells #[.int .i64 sid, .int .i32 tmo, .slice s n q] 28)).heap.size := by simp
 have x2 : (w.alloc (.cells #[.int .i64 sid, .int .i32 tmo, .slice s n q] 28)).cell? ⟨w.heap.size, 2, none⟩ = some (.slice s n q) := st_at (heap_alloc_new w _) rfl
 obtain ⟨W0, hW0⟩ : ∃ W0, w.alloc (.cells #[.int .i64 sid, .int .i32 tmo, .slice s n q] 28) = W0 := ⟨_, rfl⟩
 rw [hW0] at hb0 hlt0 x2
 have HW := Lib.hid hW0
 have X2 := Lib.hid x2
 clear hW0 x2
 have hC := clamp_any tmo
 by_cases c0 : sid ≤ 0
 ·rw [decide_eq_false (by omega), Bool.false_and] at hR
  subst hR
  clear h
  go_enter Tryz.func109, Tryz.ntmps109
  go_wp2
  go_quiet (first | (go_at_call 147; refine Calls.quiet_of_same (hC _)))
  go_wp2
  go_ret
  exact ⟨rfl, below_drewN' (by rw [HW.out]; exact hb0) _⟩
 by_cases c1 : 4 ≤ tmo ∧ tmo ≤ 1048576
 case neg =>
  rw [decide_eq_false (by omega), Bool.false_and] at hR
  subst hR
  obtain ⟨m, hm'⟩ : ∃ m : Int, (if tmo < 4 then 4 else if 1048576 < tmo then 1048576 else tmo) = m := ⟨_, rfl⟩
  have hm2 : ¬ m = tmo := by (rw [← hm']; (repeat' split); all_goals omega)
  rw [hm'] at hC
  have hm3 : (m != tmo) = true := by simpa using hm2
  clear h hm' hm2 c1
  go_enter Tryz.func109, Tryz.ntmps109
  go_wp2
  go_quiet (first | (go_at_call 147; refine Calls.quiet_of_same (hC _)))
  go_wp2
  go_ret
  exact ⟨rfl, below_drewN' (by rw [HW.out]; exact hb0) _⟩
 rw [show (if tmo < 4 then (4 : Int) else if 1048576 < tmo then 1048576 else tmo) = tmo by rw [if_neg (by omega), if_neg (by omega)]] at hC
 by_cases c2 : n ≤ 16
 case neg =>
  rw [decide_eq_false (by omega), Bool.false_and] at hR
  subst hR
  have c2z : (16 : Int) < n := by omega
  clear h
  go_enter Tryz.func109, Tryz.ntmps109
  go_wp2
  go_quiet (first | (go_at_call 147; refine Calls.quiet_of_same (hC _)))
  go_wp2
  go_ret
  exact ⟨rfl, below_drewN' (by rw [HW.out]; exact hb0) _⟩
 rw [decide_eq_true (by omega), Bool.true_and] at hR
 have HR := Lib.hid hR
 clear hR
 have c2z : ¬ (16 : Int) < n := by omega
 go_enter Tryz.func109, Tryz.ntmps109
 go_wp2
 go_quiet (first | (go_at_call 147; refine Calls.quiet_of_same (hC _)))
 go_wp2
 go_loopw [2, 3, 4, 25] (fun _ _ _ i W => ∃ k : Nat, k ≤ n ∧ i = .int .i64 k ∧ RowKit.Hid (idsGo (l.take k) (l.drop k) = R) ∧ RowKit.Hid (Below W0.heap.size W0 W)) (fun _ _ _ i _ => n - (intOf i).toNat)
 case atStart => exact ⟨0, Nat.zero_le _, rfl, HR, Lib.hid (below_drewN' (by rw [HW.out]; exact Below.refl _ _) _)⟩
 case round =>
  obtain ⟨k, hk, rfl, HP, HB⟩ := hrel
  clear HR
  have hbw := hb0.trans (HB.out.mono hb0.size)
  by_cases hlt : k < n
  ·have hkl : k < l.length := by rw [HN.out]; exact hlt
   obtain ⟨x, hx⟩ : ∃ x, l[k]? = some x := ⟨_, List.getElem?_eq_getElem hkl⟩
   have hxl : l[k] = x := (List.getElem?_eq_some_iff.1 hx).2
   have hr : (l.map IdD.cells)[k]? = some (IdD.cells x) := by rw [List.getElem?_map, hx]; rfl
   obtain ⟨b1, o1, n1, q1, e1, hb1, r1⟩ := h.row hr
   cases e1
   have r1 := range_below r1 hbw (hA b1 hb1)
   have p0 := r1 0 (.string x.scheme) rfl
   have p1 := r1 1 (.string x.id) rfl
   rw [Nat.add_zero] at p0
   have hnq : n ≤ q := by obtain ⟨⟨a2, n2, c2, h1, h2, h3, _⟩, _⟩ := h; cases h1; exact h3
   clear r1
   have hltA : wr.heap.size < (wr.alloc (.cells #[.string x.scheme, .string x.id] 79)).heap.size := by simp
   have hlt2 : w.heap.size < (wr.alloc (.cells #[.string x.scheme, .string x.id] 79)).heap.size := Nat.lt_trans (Nat.lt_of_lt_of_le hlt0 HB.out.size) hltA
   have c0A : (wr.alloc (.cells #[.string x.scheme, .string x.id] 79)).cell? ⟨wr.heap.size, 0, none⟩ = some (.string x.scheme) := st_at (heap_alloc_new wr _) rfl
   have c1A : (wr.alloc (.cells #[.string x.scheme, .string x.id] 79)).cell? ⟨wr.heap.size, 1, none⟩ = some (.string x.id) := st_at (heap_alloc_new wr _) rfl
   have hbA : Below wr.heap.size wr (wr.alloc (.cells #[.string x.scheme, .string x.id] 79)) := (Below.refl _ _).alloc (Nat.le_refl _) _
   have hwA := hbw.trans (hbA.mono hbw.size)
   have c2A : (wr.alloc (.cells #[.string x.scheme, .string x.id] 79)).cell? ⟨w.heap.size, 2, none⟩ = some (.slice (some ⟨b1, o1, none⟩) n q) := (hbA.cell (p := ⟨w.heap.size, 2, none⟩) (Nat.lt_of_lt_of_le hlt0 HB.out.size)).trans ((HB.out.cell (p := ⟨w.heap.size, 2, none⟩) hlt0).trans X2.out)
   have hid := pident_any x ((wr.alloc (.cells #[.string x.scheme, .string x.id] 79)).drew) (hz x (List.mem_of_getElem? hx)).1 (hz x (List.mem_of_getElem? hx)).2 (G.below hwA.drew)
   have hp := HP.out
   rw [List.drop_eq_getElem_cons hkl, hxl] at hp
   unfold idsGo at hp
   rw [show l.take k ++ [x] = l.take (k + 1) by rw [List.take_succ_eq_append_getElem hkl, hxl]] at hp
   have hkq : (k : Int) ≤ q := by omega
   have hT := h.takeRows k (by omega)
   have HWA := Lib.hid hwA
   have HBA := Lib.hid (HB.out.trans (hbA.mono HB.out.size))
   have hA2 : ∀ W, Below (wr.alloc (.cells #[.string x.scheme, .string x.id] 79)).heap.size (wr.alloc (.cells #[.string x.scheme, .string x.id] 79)) W → ∀ b, A b → b < W.heap.size := fun W hb b hb' => Nat.lt_of_lt_of_le (hA b hb') (Nat.le_trans HWA.out.size hb.size)
   have hcon := fun (W : World) (hb : Below (wr.alloc (.cells #[.string x.scheme, .string x.id] 79)).heap.size (wr.alloc (.cells #[.string x.scheme, .string x.id] 79)) W) => pcontains_any (l.take k) x A (.slice (some ⟨b1, o1, none⟩) k q) W ((by rw [List.map_take]; exact hT : SlR A w 2 (.slice (some ⟨b1, o1, none⟩) k q) ((l.take k).map IdD.cells)).below hA (HWA.out.trans (hb.mono HWA.out.size))) (hA2 W hb) (by rw [List.length_take]; omega)
   clear hbA hT hA2 HP
   generalize ((l.take k).any fun y => eqIdD y x) = C at hp hcon
   cases hI : identD x with
   | false =>
    rw [hI, Bool.false_and, Bool.false_and] at hp
    subst hp
    rw [hI] at hid
    clear hI hcon
    go_wp2
    refine wp_region_held_drew (S := fun W => Below (wr.alloc (.cells #[.string x.scheme, .string x.id] 79)).heap.size (wr.alloc (.cells #[.string x.scheme, .string x.id] 79)) W) (by kernel_rfl) ((Below.refl _ _).drew) (fun hHeld => ?_)
    refine wpAnyH_take (i := 0) (v := .agg #[.string x.scheme, .string x.id]) rfl (by kernel_rfl) (by kernel_rfl) (by kernel_rfl) (fun _ _ _ h => h) (Or.inl ⟨by rfl, fun wz hSw => by have p0 := (hSw.cell (p := ⟨wr.heap.size, 0, none⟩) hltA).trans c0A; have p1 := (hSw.cell (p := ⟨wr.heap.size, 1, none⟩) hltA).trans c1A; go_simp⟩) hHeld ?_
    simp only [Act.put, List.setIfInBounds_toArray]
    refine wpAnyH_ready (rs := [1]) (by kernel_rfl) (by simp) ?_
    refine AllReadyH.cons (o := { dst := some 31, op := Op.call { callee := Callee.value (Operand.func 148), args := #[Operand.tmp 30], argTypes := #[79] }, type := 4, pos := "session.go:22", after := #[{ on := 0, ground := Ground.data }], guard := none }) rfl (fun K hK => ?_) AllReadyH.nil
    go_simp
    refine hid.mono ?_
    rintro e w6 ⟨rfl, hb6⟩
    refine hK.out _ _ (((Below.refl _ _).drew).trans hb6) (fun hHeld => ?_)
    clear hK K
    refine wpAnyH_take (i := 2) (oi := { dst := some 32, op := Op.unOp UnOp.not 4 (Operand.tmp 31), type := 4, pos := "session.go:22", after := #[{ on := 1, ground := Ground.data }], guard := none }) (v := .bool true) rfl (by kernel_rfl) (by kernel_rfl) (by kernel_rfl) (fun _ _ _ h => h) (Or.inl ⟨by rfl, fun wz hSw => by go_simp⟩) hHeld ?_
    refine wpAnyH_take (i := 3) (oi := { dst := some 33, op := Op.move (Operand.tmp 32), type := 4, pos := "session.go:22", after := #[{ on := 2, ground := Ground.data }, { on := 1, ground := Ground.chain }], guard := none }) (v := .bool true) rfl (by kernel_rfl) (by kernel_rfl) (by kernel_rfl) (fun _ _ _ h => h) (Or.inl ⟨by rfl, fun wz hSw => by go_simp⟩) hHeld ?_
    refine wpAnyH_take (i := 4) (oi := { dst := some 34, op := Op.fieldAddr 28 (Operand.tmp 1) 2, type := 0, pos := "session.go:22", after := #[{ on := 3, ground := Ground.guard }], guard := some (3, false) }) (v := undef) rfl (by kernel_rfl) (by kernel_rfl) (by kernel_rfl) (fun _ _ _ h => h) (Or.inr ⟨by rfl, rfl⟩) hHeld ?_
    refine wpAnyH_take (i := 5) (oi := { dst := some 35, op := Op.load 26 (Operand.tmp 34), type := 26, pos := "session.go:22", after := #[{ on := 4, ground := Ground.data }, { on := 3, ground := Ground.guard }], guard := some (3, false) }) (v := undef) rfl (by kernel_rfl) (by kernel_rfl) (by kernel_rfl) (fun _ _ _ h => h) (Or.inr ⟨by rfl, rfl⟩) hHeld ?_
    refine wpAnyH_take (i := 6) (oi := { dst := some 36, op := Op.move (Operand.tmp 3), type := 3, pos := "session.go:22", after := #[{ on := 3, ground := Ground.guard }], guard := some (3, false) }) (v := undef) rfl (by kernel_rfl) (by kernel_rfl) (by kernel_rfl) (fun _ _ _ h => h) (Or.inr ⟨by rfl, rfl⟩) hHeld ?_
    refine wpAnyH_take (i := 7) (oi := { dst := some 37, op := Op.slice 26 (Operand.tmp 35) none (some (Operand.tmp 36)) none, type := 26, pos := "session.go:22", after := #[{ on := 5, ground := Ground.data }, { on := 6, ground := Ground.data }, { on := 3, ground := Ground.guard }], guard := some (3, false) }) (v := undef) rfl (by kernel_rfl) (by kernel_rfl) (by kernel_rfl) (fun _ _ _ h => h) (Or.inr ⟨by rfl, rfl⟩) hHeld ?_
    refine wpAnyH_take (i := 8) (oi := { dst := some 38, op := Op.load 79 (Operand.tmp 4), type := 79, pos := "session.go:22", after := #[{ on := 3, ground := Ground.guard }], guard := some (3, false) }) (v := undef) rfl (by kernel_rfl) (by kernel_rfl) (by kernel_rfl) (fun _ _ _ h => h) (Or.inr ⟨by rfl, rfl⟩) hHeld ?_
    refine wpAnyH_take (i := 9) (oi := { dst := some 39, op := Op.call { callee := Callee.value (Operand.func 149), args := #[Operand.tmp 37, Operand.tmp 38], argTypes := #[26, 79] }, type := 4, pos := "session.go:22", after := #[{ on := 7, ground := Ground.data }, { on := 8, ground := Ground.data }, { on := 3, ground := Ground.chain }, { on := 3, ground := Ground.guard }], guard := some (3, false) }) (v := undef) rfl (by kernel_rfl) (by kernel_rfl) (by kernel_rfl) (fun _ _ _ h => h) (Or.inr ⟨by rfl, rfl⟩) hHeld ?_
    refine wpAnyH_take (i := 10) (oi := { dst := some 40, op := Op.pick (Operand.tmp 33) (Operand.const (Value.bool true)) (Operand.tmp 39), type := 4, pos := "session.go:22", after := #[{ on := 3, ground := Ground.data }, { on := 9, ground := Ground.data }], guard := none }) (v := .bool true) rfl (by kernel_rfl) (by kernel_rfl) (by kernel_rfl) (fun _ _ _ h => h) (Or.inl ⟨by rfl, fun wz hSw => by go_simp⟩) hHeld ?_
    simp only [Act.put, List.setIfInBounds_toArray]
    refine wpAnyH_done (by kernel_rfl) ?_ _
    have hfin := HWA.out.trans (hHeld.mono HWA.out.size)
    clear hHeld
    go_wp2
    go_ret
    exact ⟨rfl, hfin⟩
   | true =>
    rw [hI, Bool.true_and] at hp
    rw [hI] at hid
    clear hI
    go_wp2
    refine wp_region_held_drew (S := fun W => Below (wr.alloc (.cells #[.string x.scheme, .string x.id] 79)).heap.size (wr.alloc (.cells #[.string x.scheme, .string x.id] 79)) W) (by kernel_rfl) ((Below.refl _ _).drew) (fun hHeld => ?_)
    refine wpAnyH_take (i := 0) (v := .agg #[.string x.scheme, .string x.id]) rfl (by kernel_rfl) (by kernel_rfl) (by kernel_rfl) (fun _ _ _ h => h) (Or.inl ⟨by rfl, fun wz hSw => by have p0 := (hSw.cell (p := ⟨wr.heap.size, 0, none⟩) hltA).trans c0A; have p1 := (hSw.cell (p := ⟨wr.heap.size, 1, none⟩) hltA).trans c1A; go_simp⟩) hHeld ?_
    simp only [Act.put, List.setIfInBounds_toArray]
    refine wpAnyH_ready (rs := [1]) (by kernel_rfl) (by simp) ?_
    refine AllReadyH.cons (o := { dst := some 31, op := Op.call { callee := Callee.value (Operand.func 148), args := #[Operand.tmp 30], argTypes := #[79] }, type := 4, pos := "session.go:22", after := #[{ on := 0, ground := Ground.data }], guard := none }) rfl (fun K hK => ?_) AllReadyH.nil
    go_simp
    refine hid.mono ?_
    rintro e w6 ⟨rfl, hb6⟩
    refine hK.out _ _ (((Below.refl _ _).drew).trans hb6) (fun hHeld => ?_)
    clear hK K
    refine wpAnyH_take (i := 2) (oi := { dst := some 32, op := Op.unOp UnOp.not 4 (Operand.tmp 31), type := 4, pos := "session.go:22", after := #[{ on := 1, ground := Ground.data }], guard := none }) (v := .bool false) rfl (by kernel_rfl) (by kernel_rfl) (by kernel_rfl) (fun _ _ _ h => h) (Or.inl ⟨by rfl, fun wz hSw => by go_simp⟩) hHeld ?_
    refine wpAnyH_take (i := 3) (oi := { dst := some 33, op := Op.move (Operand.tmp 32), type := 4, pos := "session.go:22", after := #[{ on := 2, ground := Ground.data }, { on := 1, ground := Ground.chain }], guard := none }) (v := .bool false) rfl (by kernel_rfl) (by kernel_rfl) (by kernel_rfl) (fun _ _ _ h => h) (Or.inl ⟨by rfl, fun wz hSw => by go_simp⟩) hHeld ?_
    refine wpAnyH_take (i := 4) (oi := { dst := some 34, op := Op.fieldAddr 28 (Operand.tmp 1) 2, type := 0, pos := "session.go:22", after := #[{ on := 3, ground := Ground.guard }], guard := some (3, false) }) (v := .pointer (some ⟨w.heap.size, 2, none⟩)) rfl (by kernel_rfl) (by kernel_rfl) (by kernel_rfl) (fun _ _ _ h => h) (Or.inl ⟨by rfl, fun wz hSw => by go_simp⟩) hHeld ?_
    refine wpAnyH_take (i := 5) (oi := { dst := some 35, op := Op.load 26 (Operand.tmp 34), type := 26, pos := "session.go:22", after := #[{ on := 4, ground := Ground.data }, { on := 3, ground := Ground.guard }], guard := some (3, false) }) (v := .slice (some ⟨b1, o1, none⟩) n q) rfl (by kernel_rfl) (by kernel_rfl) (by kernel_rfl) (fun _ _ _ h => h) (Or.inl ⟨by rfl, fun wz hSw => by have p2 := (hSw.cell (p := ⟨w.heap.size, 2, none⟩) hlt2).trans c2A; go_simp⟩) hHeld ?_
    refine wpAnyH_take (i := 6) (oi := { dst := some 36, op := Op.move (Operand.tmp 3), type := 3, pos := "session.go:22", after := #[{ on := 3, ground := Ground.guard }], guard := some (3, false) }) (v := .int .i64 k) rfl (by kernel_rfl) (by kernel_rfl) (by kernel_rfl) (fun _ _ _ h => h) (Or.inl ⟨by rfl, fun wz hSw => by go_simp⟩) hHeld ?_
    refine wpAnyH_take (i := 7) (oi := { dst := some 37, op := Op.slice 26 (Operand.tmp 35) none (some (Operand.tmp 36)) none, type := 26, pos := "session.go:22", after := #[{ on := 5, ground := Ground.data }, { on := 6, ground := Ground.data }, { on := 3, ground := Ground.guard }], guard := some (3, false) }) (v := .slice (some ⟨b1, o1, none⟩) k q) rfl (by kernel_rfl) (by kernel_rfl) (by kernel_rfl) (fun _ _ _ h => h) (Or.inl ⟨by rfl, fun wz hSw => by go_simp⟩) hHeld ?_
    refine wpAnyH_take (i := 8) (oi := { dst := some 38, op := Op.load 79 (Operand.tmp 4), type := 79, pos := "session.go:22", after := #[{ on := 3, ground := Ground.guard }], guard := some (3, false) }) (v := .agg #[.string x.scheme, .string x.id]) rfl (by kernel_rfl) (by kernel_rfl) (by kernel_rfl) (fun _ _ _ h => h) (Or.inl ⟨by rfl, fun wz hSw => by have p0 := (hSw.cell (p := ⟨wr.heap.size, 0, none⟩) hltA).trans c0A; have p1 := (hSw.cell (p := ⟨wr.heap.size, 1, none⟩) hltA).trans c1A; go_simp⟩) hHeld ?_
    simp only [Act.put, List.setIfInBounds_toArray]
    refine wpAnyH_ready (rs := [9]) (by kernel_rfl) (by simp) ?_
    refine AllReadyH.cons (o := { dst := some 39, op := Op.call { callee := Callee.value (Operand.func 149), args := #[Operand.tmp 37, Operand.tmp 38], argTypes := #[26, 79] }, type := 4, pos := "session.go:22", after := #[{ on := 7, ground := Ground.data }, { on := 8, ground := Ground.data }, { on := 3, ground := Ground.chain }, { on := 3, ground := Ground.guard }], guard := some (3, false) }) rfl (fun K hK => ?_) AllReadyH.nil
    go_simp
    refine (hcon _ hHeld).mono ?_
    rintro e w7 ⟨rfl, hb7⟩
    refine hK.out _ _ (hHeld.trans (hb7.mono hHeld.size)) (fun hHeld => ?_)
    clear hK K
    refine wpAnyH_take (i := 10) (oi := { dst := some 40, op := Op.pick (Operand.tmp 33) (Operand.const (Value.bool true)) (Operand.tmp 39), type := 4, pos := "session.go:22", after := #[{ on := 3, ground := Ground.data }, { on := 9, ground := Ground.data }], guard := none }) (v := .bool C) rfl (by kernel_rfl) (by kernel_rfl) (by kernel_rfl) (fun _ _ _ h => h) (Or.inl ⟨by rfl, fun wz hSw => by cases C <;> go_simp⟩) hHeld ?_
    simp only [Act.put, List.setIfInBounds_toArray]
    refine wpAnyH_done (by kernel_rfl) ?_ _
    have hfin := HWA.out.trans (hHeld.mono HWA.out.size)
    have HF := Lib.hid (HBA.out.trans (hHeld.mono HBA.out.size))
    clear hHeld
    cases C with
    | true =>
     rw [Bool.not_true, Bool.false_and] at hp
     subst hp
     go_wp2
     go_ret
     exact ⟨rfl, hfin⟩
    | false =>
     rw [Bool.not_false, Bool.true_and] at hp
     have HX := Lib.hid hp
     clear hp hfin
     go_wp2
     go_roundw
     case rel => exact ⟨k + 1, by omega, by go_num, HX, HF⟩
     case measure => simp [intOf]; omega
  ·obtain rfl : k = n := by omega
   have hp := HP.out
   rw [List.drop_of_length_le (by rw [HN.out]; exact Nat.le_refl _)] at hp
   unfold idsGo at hp
   subst hp
   clear HP
   go_wp2
   go_ret
   exact ⟨rfl, hbw⟩
end Go.Proofs.YtfgjiidbafdndaaGreatDoor
