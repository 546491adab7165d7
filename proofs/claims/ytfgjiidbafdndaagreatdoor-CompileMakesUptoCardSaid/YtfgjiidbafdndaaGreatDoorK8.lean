/- Equal transactions: the document's comparison answers true. -/
import Derived.Test.YtfgjiidbafdndaaGreatDoorK6
import Derived.Test.YtfgjiidbafdndaaGreatDoorK7
import Derived.Laws.BytesArg
import Derived.Shelf.Abstract
import Derived.Test.YtfgjiidbafdndaaGreatDoorK4s
import Derived.Lib.OthersKept
import Derived.Test.YtfgjiidbafdndaaGreatDoorK7p
import Derived.WalkMore
namespace Go.Proofs.YtfgjiidbafdndaaGreatDoor
open Go.RowKit
set_option maxHeartbeats 8000000
set_option maxRecDepth 100000
theorem conv_bytes {A : Nat → Prop} {w : World} {l : List UInt8} {a : Option Addr} {n c : Nat} (h : SlR A w 1 (.slice a n c) (l.map byteCells)) : (convert 22 9 (.slice a n c)).run Tryz.prog w = .ok (.string (strOfNums (l.map fun b => (b.toNat : Int)))) w := by
 have hl := h.len
 rw [List.length_map] at hl
 rcases a with _ | ad
 ·obtain ⟨⟨a', n', c', h1, h2, h3, h4, h5, _⟩, _⟩ := h
  cases h1
  obtain rfl := h5 rfl
  obtain rfl : n = 0 := by omega
  obtain rfl : l = [] := List.eq_nil_of_length_eq_zero hl
  exact run_convert_bytes_nil w 22 5 Tryz.underlying22 Tryz.underlying5 0 0 9 Tryz.underlying9
 ·by_cases h0 : 0 < n
  ·obtain ⟨⟨a', n', c', h1, h2, h3, h4, h5, ⟨h6, h6'⟩, h7⟩, h8⟩ := h
   cases h1
   obtain ⟨b, o, hb, hc⟩ := h6' h0
   cases hb
   refine run_convert_bytes_arg w 22 5 Tryz.underlying22 Tryz.underlying5 b o n c _ (by simpa using hl) (fun i hi => ?_) 9 Tryz.underlying9
   refine hc i _ ?_
   have hil : i < l.length := by omega
   have := flat_at h8 (k := i) (r := byteCells l[i]) (by rw [List.getElem?_map, List.getElem?_eq_getElem hil]; rfl) (j := 0) (by omega)
   rw [Nat.mul_one, Nat.add_zero] at this
   rw [this]
   show some _ = some _
   simp [List.getD, List.getElem?_eq_getElem hil]
  ·obtain rfl : n = 0 := by omega
   obtain rfl : l = [] := List.eq_nil_of_length_eq_zero hl
   have hl0 : (loadCells ad 0).run Tryz.prog w = .ok (([] : List Int).map (Value.int .u8)).toArray w := by
    have := run_loadCells_list (P := Tryz.prog) w ad [] (fun j v hj => by simp at hj)
    simpa using this
   rw [run_convert_bytes_string w 22 9 5 _ 0 c Tryz.underlying22 Tryz.underlying5 Tryz.underlying9, run_bytesToString w _ 0 c [] hl0]
   rfl
abbrev ZF20 (x0 : TxnF) (x1 : Option Addr) (x2 x3 : Nat) (x4 : Option Addr) (x5 x6 : Nat) (x7 : Option Addr) (x8 x9 : Nat) (x10 : Option Addr) (x11 x12 : Nat) (x13 : Option Addr) (x14 x15 : Nat) : Obj := (.cells #[.int .i32 x0.type, .string x0.path, .slice x1 x2 x3, .slice x4 x5 x6, .int .i64 x0.owner, .int .i32 x0.version, .int .i32 x0.creates, .bool x0.has, .int .i64 x0.count, .int .i64 x0.bytes, .int .i64 x0.sid, .int .i32 x0.timeout, .slice x7 x8 x9, .slice x10 x11 x12, .int .i32 x0.code, .slice x13 x14 x15] 33)
theorem sametxn_step (N : Nat) (ih : ∀ (t : TxnD) (A B : Nat → Prop) (cs ds : List Value) (w : World), SizeOf.sizeOf t < N → TxnOk t → TxnR A w t cs → TxnR B w t ds → (∀ b, A b → b < w.heap.size) → (∀ b, B b → b < w.heap.size) →
   Calls Tryz.prog 44 #[.agg cs.toArray, .agg ds.toArray] w fun e w' => e = .returned (.bool true) ∧ Below w.heap.size w w')
  (f : TxnF) (subs : List TxnD) (hN : SizeOf.sizeOf (TxnD.mk f subs) < N + 1) (hok : TxnOk (.mk f subs)) (A B : Nat → Prop) (v1 v2 v3 v4 v5 u1 u2 u3 u4 u5 : Value) (rows rows' : List (List Value)) (w : World) (hA : ∀ b, A b → b < w.heap.size) (hB : ∀ b, B b → b < w.heap.size)
  (h1 : SlR A w 1 v1 (f.data.map byteCells)) (k1 : SlR B w 1 u1 (f.data.map byteCells)) (h2 : SlR A w 3 v2 (f.acl.map AclD.cells)) (k2 : SlR B w 3 u2 (f.acl.map AclD.cells)) (h3 : SlR A w 2 v3 (f.ids.map IdD.cells)) (k3 : SlR B w 2 u3 (f.ids.map IdD.cells)) (h4 : SlR A w 1 v4 (f.paths.map strCells)) (k4 : SlR B w 1 u4 (f.paths.map strCells)) (h5 : SlR A w 16 v5 rows) (k5 : SlR B w 16 u5 rows') (h6 : TxnsR A w subs rows) (k6 : TxnsR B w subs rows') :
  Calls Tryz.prog 44 #[.agg (f.cells v1 v2 v3 v4 v5).toArray, .agg (f.cells u1 u2 u3 u4 u5).toArray] w fun e w' => e = .returned (.bool true) ∧ Below w.heap.size w w' := by
 rw [TxnOk] at hok
 obtain ⟨hf, hsl, hso⟩ := hok
 have r5 : rows.length = subs.length := h6.len
 have r6 : rows'.length = subs.length := k6.len
 obtain ⟨n1, hn1⟩ : ∃ n, f.data.length = n := ⟨_, rfl⟩
 have m1 : n1 ≤ 1048576 := by rw [← hn1]; exact hf.data
 obtain ⟨s1, p1, rfl⟩ := h1.len'
 obtain ⟨t1, q1, rfl⟩ := k1.len'
 rw [List.length_map, hn1] at h1 k1 ⊢
 replace hn1 := Lib.hid hn1
 obtain ⟨n2, hn2⟩ : ∃ n, f.acl.length = n := ⟨_, rfl⟩
 have m2 : n2 ≤ 1048576 := by rw [← hn2]; exact hf.acl
 obtain ⟨s2, p2, rfl⟩ := h2.len'
 obtain ⟨t2, q2, rfl⟩ := k2.len'
 rw [List.length_map, hn2] at h2 k2 ⊢
 replace hn2 := Lib.hid hn2
 obtain ⟨n3, hn3⟩ : ∃ n, f.ids.length = n := ⟨_, rfl⟩
 have m3 : n3 ≤ 1048576 := by rw [← hn3]; exact hf.ids
 obtain ⟨s3, p3, rfl⟩ := h3.len'
 obtain ⟨t3, q3, rfl⟩ := k3.len'
 rw [List.length_map, hn3] at h3 k3 ⊢
 replace hn3 := Lib.hid hn3
 obtain ⟨n4, hn4⟩ : ∃ n, f.paths.length = n := ⟨_, rfl⟩
 have m4 : n4 ≤ 1048576 := by rw [← hn4]; exact hf.paths
 obtain ⟨s4, p4, rfl⟩ := h4.len'
 obtain ⟨t4, q4, rfl⟩ := k4.len'
 rw [List.length_map, hn4] at h4 k4 ⊢
 replace hn4 := Lib.hid hn4
 obtain ⟨n5, hn5⟩ : ∃ n, subs.length = n := ⟨_, rfl⟩
 have m5 : n5 ≤ 1048576 := by rw [← hn5]; exact hsl
 obtain ⟨s5, p5, rfl⟩ := h5.len'
 obtain ⟨t5, q5, rfl⟩ := k5.len'
 rw [r5, hn5] at h5 ⊢
 rw [r6, hn5] at k5 ⊢
 rw [hn5] at r5 r6
 replace hn5 := Lib.hid hn5
 replace r5 := Lib.hid r5
 replace r6 := Lib.hid r6
 have g1 := box_at w (ZF20 f s1 n1 p1 s2 n2 p2 s3 n3 p3 s4 n4 p4 s5 n5 p5) (.cells #[.int .i32 f.type, .string f.path, .slice t1 n1 q1, .slice t2 n2 q2, .int .i64 f.owner, .int .i32 f.version, .int .i32 f.creates, .bool f.has, .int .i64 f.count, .int .i64 f.bytes, .int .i64 f.sid, .int .i32 f.timeout, .slice t3 n3 q3, .slice t4 n4 q4, .int .i32 f.code, .slice t5 n5 q5] 33)
 have g2 := heap_alloc_new (w.alloc (ZF20 f s1 n1 p1 s2 n2 p2 s3 n3 p3 s4 n4 p4 s5 n5 p5)) (.cells #[.int .i32 f.type, .string f.path, .slice t1 n1 q1, .slice t2 n2 q2, .int .i64 f.owner, .int .i32 f.version, .int .i32 f.creates, .bool f.has, .int .i64 f.count, .int .i64 f.bytes, .int .i64 f.sid, .int .i32 f.timeout, .slice t3 n3 q3, .slice t4 n4 q4, .int .i32 f.code, .slice t5 n5 q5] 33)
 rw [World.size_alloc] at g2
 have bb : Below w.heap.size w ((w.alloc (ZF20 f s1 n1 p1 s2 n2 p2 s3 n3 p3 s4 n4 p4 s5 n5 p5)).alloc (.cells #[.int .i32 f.type, .string f.path, .slice t1 n1 q1, .slice t2 n2 q2, .int .i64 f.owner, .int .i32 f.version, .int .i32 f.creates, .bool f.has, .int .i64 f.count, .int .i64 f.bytes, .int .i64 f.sid, .int .i32 f.timeout, .slice t3 n3 q3, .slice t4 n4 q4, .int .i32 f.code, .slice t5 n5 q5] 33)) := ((Below.refl w.heap.size w).alloc (Nat.le_refl _) _).alloc (by simp) _
 have zz : ((w.alloc (ZF20 f s1 n1 p1 s2 n2 p2 s3 n3 p3 s4 n4 p4 s5 n5 p5)).alloc (.cells #[.int .i32 f.type, .string f.path, .slice t1 n1 q1, .slice t2 n2 q2, .int .i64 f.owner, .int .i32 f.version, .int .i32 f.creates, .bool f.has, .int .i64 f.count, .int .i64 f.bytes, .int .i64 f.sid, .int .i32 f.timeout, .slice t3 n3 q3, .slice t4 n4 q4, .int .i32 f.code, .slice t5 n5 q5] 33)).heap.size = w.heap.size + 1 + 1 := by simp
 obtain ⟨S, hS⟩ : ∃ S, strOfNums (f.data.map fun b => (b.toNat : Int)) = S := ⟨_, rfl⟩
 have cv1 := conv_bytes (h1.below hA bb)
 have cv2 := conv_bytes (k1.below hB bb)
 rw [hS] at cv1 cv2
 clear hS
 have hqq := fun w => (neq_quota f.has f.has f.count f.count f.bytes f.bytes w).trans (by rw [eqQuotaD_self])
 have l2 := h2.below hA bb
 have l2' := k2.below hB bb
 have hAz : ∀ b, A b → b < ((w.alloc (ZF20 f s1 n1 p1 s2 n2 p2 s3 n3 p3 s4 n4 p4 s5 n5 p5)).alloc (.cells #[.int .i32 f.type, .string f.path, .slice t1 n1 q1, .slice t2 n2 q2, .int .i64 f.owner, .int .i32 f.version, .int .i32 f.creates, .bool f.has, .int .i64 f.count, .int .i64 f.bytes, .int .i64 f.sid, .int .i32 f.timeout, .slice t3 n3 q3, .slice t4 n4 q4, .int .i32 f.code, .slice t5 n5 q5] 33)).heap.size := fun b hb => by have := hA b hb; omega
 have hBz : ∀ b, B b → b < ((w.alloc (ZF20 f s1 n1 p1 s2 n2 p2 s3 n3 p3 s4 n4 p4 s5 n5 p5)).alloc (.cells #[.int .i32 f.type, .string f.path, .slice t1 n1 q1, .slice t2 n2 q2, .int .i64 f.owner, .int .i32 f.version, .int .i32 f.creates, .bool f.has, .int .i64 f.count, .int .i64 f.bytes, .int .i64 f.sid, .int .i32 f.timeout, .slice t3 n3 q3, .slice t4 n4 q4, .int .i32 f.code, .slice t5 n5 q5] 33)).heap.size := fun b hb => by have := hB b hb; omega
 have call81 := acls_same f.acl A B _ _ _ l2 l2' hAz hBz (by rw [hn2.out]; exact m2)
 unfold TxnF.cells
 go_enter Tryz.func44, Tryz.ntmps44
 go_wp2_with (go_at_call 81
              refine call81.mono ?_
              rintro e w1 ⟨rfl, hb1⟩
              have x0 := st_at ((hb1.block w.heap.size (by omega)).trans g1) (k := 0) rfl
              have y0 := st_at ((hb1.block (w.heap.size + 1) (by omega)).trans g2) (k := 0) rfl
              have x1 := st_at ((hb1.block w.heap.size (by omega)).trans g1) (k := 1) rfl
              have y1 := st_at ((hb1.block (w.heap.size + 1) (by omega)).trans g2) (k := 1) rfl
              have x2 := st_at ((hb1.block w.heap.size (by omega)).trans g1) (k := 2) rfl
              have y2 := st_at ((hb1.block (w.heap.size + 1) (by omega)).trans g2) (k := 2) rfl
              have x3 := st_at ((hb1.block w.heap.size (by omega)).trans g1) (k := 3) rfl
              have y3 := st_at ((hb1.block (w.heap.size + 1) (by omega)).trans g2) (k := 3) rfl
              have x4 := st_at ((hb1.block w.heap.size (by omega)).trans g1) (k := 4) rfl
              have y4 := st_at ((hb1.block (w.heap.size + 1) (by omega)).trans g2) (k := 4) rfl
              have x5 := st_at ((hb1.block w.heap.size (by omega)).trans g1) (k := 5) rfl
              have y5 := st_at ((hb1.block (w.heap.size + 1) (by omega)).trans g2) (k := 5) rfl
              have x6 := st_at ((hb1.block w.heap.size (by omega)).trans g1) (k := 6) rfl
              have y6 := st_at ((hb1.block (w.heap.size + 1) (by omega)).trans g2) (k := 6) rfl
              have x7 := st_at ((hb1.block w.heap.size (by omega)).trans g1) (k := 7) rfl
              have y7 := st_at ((hb1.block (w.heap.size + 1) (by omega)).trans g2) (k := 7) rfl
              have x8 := st_at ((hb1.block w.heap.size (by omega)).trans g1) (k := 8) rfl
              have y8 := st_at ((hb1.block (w.heap.size + 1) (by omega)).trans g2) (k := 8) rfl
              have x9 := st_at ((hb1.block w.heap.size (by omega)).trans g1) (k := 9) rfl
              have y9 := st_at ((hb1.block (w.heap.size + 1) (by omega)).trans g2) (k := 9) rfl
              have x10 := st_at ((hb1.block w.heap.size (by omega)).trans g1) (k := 10) rfl
              have y10 := st_at ((hb1.block (w.heap.size + 1) (by omega)).trans g2) (k := 10) rfl
              have x11 := st_at ((hb1.block w.heap.size (by omega)).trans g1) (k := 11) rfl
              have y11 := st_at ((hb1.block (w.heap.size + 1) (by omega)).trans g2) (k := 11) rfl
              have x12 := st_at ((hb1.block w.heap.size (by omega)).trans g1) (k := 12) rfl
              have y12 := st_at ((hb1.block (w.heap.size + 1) (by omega)).trans g2) (k := 12) rfl
              have x13 := st_at ((hb1.block w.heap.size (by omega)).trans g1) (k := 13) rfl
              have y13 := st_at ((hb1.block (w.heap.size + 1) (by omega)).trans g2) (k := 13) rfl
              have x14 := st_at ((hb1.block w.heap.size (by omega)).trans g1) (k := 14) rfl
              have y14 := st_at ((hb1.block (w.heap.size + 1) (by omega)).trans g2) (k := 14) rfl
              have x15 := st_at ((hb1.block w.heap.size (by omega)).trans g1) (k := 15) rfl
              have y15 := st_at ((hb1.block (w.heap.size + 1) (by omega)).trans g2) (k := 15) rfl)
 have bb1 : Below w.heap.size w w1 := bb.trans (hb1.mono (by omega))
 have sz1 : w.heap.size + 2 ≤ w1.heap.size := by have := hb1.size; omega
 go_loopw [5] (fun i W => ∃ k : Nat, k ≤ n3 ∧ i = .int .i64 k ∧ Below w1.heap.size w1 W) (fun i _ => n3 - (intOf i).toNat)
 case atStart => exact ⟨0, Nat.zero_le _, rfl, Below.refl _ _⟩
 case round =>
  obtain ⟨k, hk, rfl, hb⟩ := hrel
  have hbw := bb1.trans (hb.mono (by omega))
  have X := (hb.cell (p := ⟨w.heap.size, 12, none⟩) (by show w.heap.size < _; omega)).trans x12
  have Y := (hb.cell (p := ⟨w.heap.size + 1, 12, none⟩) (by show w.heap.size + 1 < _; omega)).trans y12
  by_cases hlt : k < n3
  ·obtain ⟨x, hx⟩ : ∃ x, f.ids[k]? = some x := ⟨_, List.getElem?_eq_getElem (by rw [hn3.out]; exact hlt)⟩
   have hr : (f.ids.map IdD.cells)[k]? = some (x.cells) := by rw [List.getElem?_map, hx]; rfl
   obtain ⟨b1, o1, nn1, qq1, e1, hb1', r1⟩ := h3.row hr
   obtain ⟨b2, o2, nn2, qq2, e2, hb2', r2⟩ := k3.row hr
   cases e1
   cases e2
   have r1 := range_below r1 hbw (hA b1 hb1')
   have r2 := range_below r2 hbw (hB b2 hb2')
   have c0 := r1 0 (.string x.scheme) rfl
   have d0 := r2 0 (.string x.scheme) rfl
   have c1 := r1 1 (.string x.id) rfl
   have d1 := r2 1 (.string x.id) rfl
   rw [Nat.add_zero] at c0 d0
   have hq : ∀ w, (binOp .neq 79 (.agg #[.string x.scheme, .string x.id]) (.agg #[.string x.scheme, .string x.id])).run Tryz.prog w = .ok (.bool false) w := fun w => by
    have := neq_id x x w
    rw [(eqIdD_iff x x).2 rfl] at this
    exact this
   go_wp2
   go_quiet (fail)
   go_wp2
   go_roundw
   case rel => exact ⟨k + 1, by omega, rfl, below_drewN' hb _⟩
   case measure => simp [intOf]; omega
  ·go_wp2
   clear X Y hlt hk hbw
   go_loopw [6] (fun i W => ∃ k : Nat, k ≤ n4 ∧ i = .int .i64 k ∧ Below w1.heap.size w1 W) (fun i _ => n4 - (intOf i).toNat)
   case atStart => exact ⟨0, Nat.zero_le _, rfl, hb⟩
   case round =>
    obtain ⟨k, hk, rfl, hb⟩ := hrel
    have hbw := bb1.trans (hb.mono (by omega))
    have X := (hb.cell (p := ⟨w.heap.size, 13, none⟩) (by show w.heap.size < _; omega)).trans x13
    have Y := (hb.cell (p := ⟨w.heap.size + 1, 13, none⟩) (by show w.heap.size + 1 < _; omega)).trans y13
    by_cases hlt : k < n4
    ·obtain ⟨x, hx⟩ : ∃ x, f.paths[k]? = some x := ⟨_, List.getElem?_eq_getElem (by rw [hn4.out]; exact hlt)⟩
     have hr : (f.paths.map strCells)[k]? = some (strCells x) := by rw [List.getElem?_map, hx]; rfl
     obtain ⟨b1, o1, nn1, qq1, e1, hb1', r1⟩ := h4.row hr
     obtain ⟨b2, o2, nn2, qq2, e2, hb2', r2⟩ := k4.row hr
     cases e1
     cases e2
     have r1 := range_below r1 hbw (hA b1 hb1')
     have r2 := range_below r2 hbw (hB b2 hb2')
     have c0 := r1 0 (.string x) rfl
     have d0 := r2 0 (.string x) rfl
     rw [Nat.add_zero] at c0 d0
     rw [Nat.mul_one] at c0 d0
     go_wp2
     go_quiet (fail)
     go_wp2
     go_roundw
     case rel => exact ⟨k + 1, by omega, rfl, below_drewN' hb _⟩
     case measure => simp [intOf]; omega
    ·go_wp2
     clear X Y hlt hk hbw
     go_loopw [7] (fun i W => ∃ k : Nat, k ≤ n5 ∧ i = .int .i64 k ∧ Below w1.heap.size w1 W) (fun i _ => n5 - (intOf i).toNat)
     case atStart => exact ⟨0, Nat.zero_le _, rfl, hb⟩
     case round =>
      obtain ⟨k, hk, rfl, hb⟩ := hrel
      have hbw := bb1.trans (hb.mono (by omega))
      have X := (hb.cell (p := ⟨w.heap.size, 15, none⟩) (by show w.heap.size < _; omega)).trans x15
      have Y := (hb.cell (p := ⟨w.heap.size + 1, 15, none⟩) (by show w.heap.size + 1 < _; omega)).trans y15
      by_cases hlt : k < n5
      ·obtain ⟨⟨f', subs'⟩, ht'⟩ : ∃ t, subs[k]? = some t := ⟨_, List.getElem?_eq_getElem (by rw [hn5.out]; exact hlt)⟩
       obtain ⟨r, hr, hR⟩ := h6.get ht'
       obtain ⟨r', hr', hR'⟩ := k6.get ht'
       obtain ⟨b1, o1, nn1, qq1, e1, hb1', a1⟩ := h5.row hr
       obtain ⟨b2, o2, nn2, qq2, e2, hb2', a2⟩ := k5.row hr'
       cases e1
       cases e2
       have a1 := range_below a1 hbw (hA b1 hb1')
       have a2 := range_below a2 hbw (hB b2 hb2')
       have hi1 : (Tryz.prog.info? 33).map (·.size) = some r.length := by rw [hR.length]; kernel_rfl
       have hi2 : (Tryz.prog.info? 33).map (·.size) = some r'.length := by rw [hR'.length]; kernel_rfl
       have hu := Tryz.underlying33
       have hok' := hso.get ht'
       have hsz' : SizeOf.sizeOf (TxnD.mk f' subs') < N := by have := List.sizeOf_lt_of_mem (List.mem_of_getElem? ht'); simp at hN this ⊢; omega
       have hbs := hbw.size
       have hcall := ih (.mk f' subs') A B r r' wr.drew hsz' hok' (hR.kept (w' := wr.drew) fun b hb => hbw.block b (hA b hb)) (hR'.kept (w' := wr.drew) fun b hb => hbw.block b (hB b hb)) (fun b hb => Nat.lt_of_lt_of_le (hA b hb) hbs) (fun b hb => Nat.lt_of_lt_of_le (hB b hb) hbs)
       have hltz : (k : Int) < n5 := by omega
       clear x0 x1 x2 x3 x4 x5 x6 x7 x8 x9 x10 x11 x12 x13 x14 x15 y0 y1 y2 y3 y4 y5 y6 y7 y8 y9 y10 y11 y12 y13 y14 y15 cv1 cv2 hqq call81 l2 l2' h1 h2 h3 h4 k1 k2 k3 k4 g1 g2 hn1 hn2 hn3 hn4 m1 m2 m3 m4 hf ih hR hR' hr hr' ht' hAz hBz zz bb hok' hsz'
       go_wp2
       refine wp_region_held_drew (S := fun w' => w'.cell? ⟨w.heap.size, 15, none⟩ = some (.slice (some ⟨b1, o1, none⟩) n5 p5) ∧ w'.cell? ⟨w.heap.size + 1, 15, none⟩ = some (.slice (some ⟨b2, o2, none⟩) n5 q5) ∧ w'.rangeAt b1 (o1 + k * 16) r ∧ w'.rangeAt b2 (o2 + k * 16) r') (by kernel_rfl) ⟨X, Y, a1, a2⟩ (fun hHeld => ?_)
       refine wpAnyH_take (i := 0) (v := .pointer (some ⟨w.heap.size, 15, none⟩)) rfl (by kernel_rfl) (by kernel_rfl) (by kernel_rfl) (fun _ _ _ h => h) (Or.inl ⟨by kernel_rfl, fun w hSw => by go_simp⟩) hHeld ?_
       simp only [Act.put, List.setIfInBounds_toArray]
       refine wpAnyH_take (i := 1) (v := .slice (some ⟨b1, o1, none⟩) n5 p5) rfl (by kernel_rfl) (by kernel_rfl) (by kernel_rfl) (fun _ _ _ h => h) (Or.inl ⟨by kernel_rfl, fun w hSw => by obtain ⟨hS1, hS2, _, _⟩ := hSw; go_simp⟩) hHeld ?_
       simp only [Act.put]
       refine wpAnyH_take (i := 2) (v := .int .i64 k) rfl (by kernel_rfl) (by kernel_rfl) (by kernel_rfl) (fun _ _ _ h => h) (Or.inl ⟨by kernel_rfl, fun w hSw => by go_simp⟩) hHeld ?_
       simp only [Act.put]
       refine wpAnyH_take (i := 3) (v := .pointer (some ⟨b1, o1 + k * 16, none⟩)) rfl (by kernel_rfl) (by kernel_rfl) (by kernel_rfl) (fun _ _ _ h => h) (Or.inl ⟨by kernel_rfl, fun w hSw => by go_simp⟩) hHeld ?_
       simp only [Act.put]
       refine wpAnyH_take (i := 4) (v := .agg r.toArray) rfl (by kernel_rfl) (by kernel_rfl) (by kernel_rfl) (fun _ _ _ h => h) (yieldsIf_load_mid (by kernel_rfl) 33 (.tmp 166) rfl b1 (o1 + k * 16) (by kernel_rfl) r _ (fun w hSw => hSw.2.2.1) hu rfl hi1) hHeld ?_
       simp only [Act.put]
       refine wpAnyH_take (i := 5) (v := .pointer (some ⟨w.heap.size + 1, 15, none⟩)) rfl (by kernel_rfl) (by kernel_rfl) (by kernel_rfl) (fun _ _ _ h => h) (Or.inl ⟨by kernel_rfl, fun w hSw => by go_simp⟩) hHeld ?_
       simp only [Act.put]
       refine wpAnyH_take (i := 6) (v := .slice (some ⟨b2, o2, none⟩) n5 q5) rfl (by kernel_rfl) (by kernel_rfl) (by kernel_rfl) (fun _ _ _ h => h) (Or.inl ⟨by kernel_rfl, fun w hSw => by obtain ⟨hS1, hS2, _, _⟩ := hSw; go_simp⟩) hHeld ?_
       simp only [Act.put]
       refine wpAnyH_take (i := 7) (v := .int .i64 k) rfl (by kernel_rfl) (by kernel_rfl) (by kernel_rfl) (fun _ _ _ h => h) (Or.inl ⟨by kernel_rfl, fun w hSw => by go_simp⟩) hHeld ?_
       simp only [Act.put]
       refine wpAnyH_take (i := 8) (v := .pointer (some ⟨b2, o2 + k * 16, none⟩)) rfl (by kernel_rfl) (by kernel_rfl) (by kernel_rfl) (fun _ _ _ h => h) (Or.inl ⟨by kernel_rfl, fun w hSw => by go_simp⟩) hHeld ?_
       simp only [Act.put]
       refine wpAnyH_take (i := 9) (v := .agg r'.toArray) rfl (by kernel_rfl) (by kernel_rfl) (by kernel_rfl) (fun _ _ _ h => h) (yieldsIf_load_mid (by kernel_rfl) 33 (.tmp 171) rfl b2 (o2 + k * 16) (by kernel_rfl) r' _ (fun w hSw => hSw.2.2.2) hu rfl hi2) hHeld ?_
       simp only [Act.put]
       refine wpAnyH_ready (rs := [10]) (by kernel_rfl) (by simp) ?_
       refine AllReadyH.cons (o := { dst := some 173, op := Op.call { callee := Callee.value (Operand.func 44), args := #[Operand.tmp 167, Operand.tmp 172], argTypes := #[33, 33] }, type := 4, pos := _, after := #[{ on := 4, ground := Ground.data }, { on := 9, ground := Ground.data }], guard := none }) rfl (fun K hK => ?_) AllReadyH.nil
       go_simp
       refine hcall.mono ?_
       rintro e w6 ⟨rfl, hb6d⟩
       have hb6 : Below wr.heap.size wr w6 := (Below.refl _ wr).drew.trans hb6d
       have hg1 : w.heap.size + 1 < wr.heap.size := by have := hb.size; omega
       refine hK.out _ _ ⟨(hb6.cell (p := ⟨w.heap.size, 15, none⟩) (by show w.heap.size < _; omega)).trans X, (hb6.cell (p := ⟨w.heap.size + 1, 15, none⟩) hg1).trans Y, range_below a1 hb6 (by have := hA b1 hb1'; omega), range_below a2 hb6 (by have := hB b2 hb2'; omega)⟩ (fun hHeld => ?_)
       clear hK K
       refine wpAnyH_take (i := 11) (oi := { dst := some 174, op := Op.unOp UnOp.not 4 (Operand.tmp 173), type := 4, pos := _, after := #[{ on := 10, ground := Ground.data }], guard := none }) (v := .bool false) rfl (by kernel_rfl) (by kernel_rfl) (by kernel_rfl) (fun _ _ _ h => h) (Or.inl ⟨by kernel_rfl, fun w hSw => by go_simp⟩) hHeld ?_
       simp only [Act.put, List.setIfInBounds_toArray, List.set_cons_zero, List.set_cons_succ]
       refine wpAnyH_done (by kernel_rfl) ?_ _
       have hk0 : (0 : Int) ≤ k := Int.natCast_nonneg _
       have hkb : (k : Int) + 1 ≤ 1048577 := by omega
       go_wp2
       go_roundw
       case rel => exact ⟨k + 1, by omega, rfl, hb.trans (hb6.mono hb.size)⟩
       case measure => simp [intOf]; omega
      ·have hltz : ¬ ((k : Int) < n5) := by omega
       go_wp2
       go_ret
       exact ⟨rfl, hbw⟩
theorem sametxn_all : ∀ (N : Nat) (t : TxnD) (A B : Nat → Prop) (cs ds : List Value) (w : World), SizeOf.sizeOf t < N → TxnOk t → TxnR A w t cs → TxnR B w t ds → (∀ b, A b → b < w.heap.size) → (∀ b, B b → b < w.heap.size) →
  Calls Tryz.prog 44 #[.agg cs.toArray, .agg ds.toArray] w fun e w' => e = .returned (.bool true) ∧ Below w.heap.size w w'
 | 0, _, _, _, _, _, _, h, _, _, _, _, _ => absurd h (Nat.not_lt_zero _)
 | N + 1, .mk f subs, A, B, cs, ds, w, hN, hok, hR, hS, hA, hB => by
  rw [TxnR] at hR hS
  obtain ⟨v1, v2, v3, v4, v5, rows, rfl, h1, h2, h3, h4, h5, h6⟩ := hR
  obtain ⟨u1, u2, u3, u4, u5, rows', rfl, k1, k2, k3, k4, k5, k6⟩ := hS
  exact sametxn_step N (sametxn_all N) f subs hN hok A B v1 v2 v3 v4 v5 u1 u2 u3 u4 u5 rows rows' w hA hB h1 k1 h2 k2 h3 k3 h4 k4 h5 k5 h6 k6
theorem sametxn_any (t : TxnD) (A B : Nat → Prop) (cs ds : List Value) (w : World) (hok : TxnOk t) (hR : TxnR A w t cs) (hS : TxnR B w t ds) (hA : ∀ b, A b → b < w.heap.size) (hB : ∀ b, B b → b < w.heap.size) :
  Calls Tryz.prog 44 #[.agg cs.toArray, .agg ds.toArray] w fun e w' => e = .returned (.bool true) ∧ Below w.heap.size w w' :=
 sametxn_all (SizeOf.sizeOf t + 1) t A B cs ds w (Nat.lt_succ_self _) hok hR hS hA hB
set_option maxHeartbeats 1000000
def PredOn {α : Type} (g : Nat) (lb : Array Value) (enc : α → Value) (p : α → Bool) (l : List α) (w : World) : Prop :=
 ∀ (W : World) (x : α), x ∈ l → Below w.heap.size w W → Calls Tryz.prog g (#[enc x] ++ lb) W fun e w' => e = .returned (.bool (p x)) ∧ Below W.heap.size W w'
def IdxPost (R : Bool) (e : Ending) : Prop := ∃ i : Int, e = .returned (.int .i64 i) ∧ decide (0 ≤ i) = R
theorem PredOn.later {α : Type} {g : Nat} {lb : Array Value} {enc : α → Value} {p : α → Bool} {l : List α} {w W : World} (h : PredOn g lb enc p l w) (hb : Below w.heap.size w W) : PredOn g lb enc p l W :=
 fun W' x hx hb' => h W' x hx (hb.trans (hb'.mono hb.size))
theorem idxStr_any (g : Nat) (lb : Array Value) (eg : ∀ args w, (callFunc g args).run Tryz.prog w = .ok (.enter g args) w) (p : ByteArray → Bool) (l : List ByteArray) (A : Nat → Prop) (v : Value) (w : World) (h : SlR A w 1 v (l.map strCells))
  (hA : ∀ b, A b → b < w.heap.size) (hm : l.length ≤ 1048576) (hp : PredOn g lb (fun x => .string x) p l w) :
  Calls Tryz.prog 112 #[v, .func (.func g) #[] lb] w fun e w' => IdxPost (l.any p) e ∧ Below w.heap.size w w' := by
 obtain ⟨n, hn⟩ : ∃ n, l.length = n := ⟨_, rfl⟩
 obtain ⟨s, q, rfl⟩ := h.len'
 rw [List.length_map, hn] at h ⊢
 rw [hn] at hm
 obtain ⟨R, hR⟩ : ∃ R, l.any p = R := ⟨_, rfl⟩
 rw [hR]
 have HN := Lib.hid hn
 have HR := Lib.hid hR
 clear hn hR
 go_enter Tryz.func112, Tryz.ntmps112
 go_wp2
 go_loopw [5, 8] (fun _ i W => ∃ k : Nat, k ≤ n ∧ i = .int .i64 k ∧ RowKit.Hid ((l.drop k).any p = R) ∧ Below w.heap.size w W) (fun _ i _ => n - (intOf i).toNat)
 case atStart => exact ⟨0, Nat.zero_le _, rfl, HR, Below.refl _ _⟩
 case round =>
  obtain ⟨k, hk, rfl, HP, hb⟩ := hrel
  clear HR
  by_cases hlt : k < n
  ·have hkl : k < l.length := by rw [HN.out]; exact hlt
   obtain ⟨x, hx⟩ : ∃ x, l[k]? = some x := ⟨_, List.getElem?_eq_getElem hkl⟩
   have hxl : l[k] = x := (List.getElem?_eq_some_iff.1 hx).2
   have hr : (l.map strCells)[k]? = some (strCells x) := by rw [List.getElem?_map, hx]; rfl
   obtain ⟨b1, o1, n1, q1, e1, hb1, r1⟩ := h.row hr
   cases e1
   have r1 := range_below r1 hb (hA b1 hb1)
   have p0 := r1 0 (.string x) rfl
   rw [Nat.add_zero, Nat.mul_one] at p0
   have hcall := hp wr x (List.mem_of_getElem? hx) hb
   have hp' := HP.out
   rw [List.drop_eq_getElem_cons hkl, List.any_cons, hxl] at hp'
   clear HP hr hx hxl r1
   cases hq : p x with
   | true =>
    rw [hq] at hcall hp'
    rw [Bool.true_or] at hp'
    subst hp'
    clear hq
    go_wp2_with (go_at_fn g; refine hcall.mono ?_; rintro e w' ⟨rfl, hb'⟩)
    go_ret
    exact ⟨⟨_, rfl, by simp⟩, hb.trans (hb'.mono hb.size)⟩
   | false =>
    rw [hq] at hcall hp'
    rw [Bool.false_or] at hp'
    have HX := Lib.hid hp'
    clear hq hp'
    go_wp2_with (go_at_fn g; refine hcall.mono ?_; rintro e w' ⟨rfl, hb'⟩)
    go_roundw
    case rel => exact ⟨k + 1, by omega, by go_num, HX, hb.trans (hb'.mono hb.size)⟩
    case measure => simp [intOf]; omega
  ·obtain rfl : k = n := by omega
   have hp' := HP.out
   rw [List.drop_of_length_le (by rw [HN.out]; exact Nat.le_refl _), List.any_nil] at hp'
   subst hp'
   clear HP
   go_wp2
   go_ret
   exact ⟨⟨_, rfl, by decide⟩, hb⟩
theorem containsStr_any (g : Nat) (lb : Array Value) (eg : ∀ args w, (callFunc g args).run Tryz.prog w = .ok (.enter g args) w) (p : ByteArray → Bool) (l : List ByteArray) (A : Nat → Prop) (v : Value) (w : World) (h : SlR A w 1 v (l.map strCells))
  (hA : ∀ b, A b → b < w.heap.size) (hm : l.length ≤ 1048576) (hp : PredOn g lb (fun x => .string x) p l w) :
  Calls Tryz.prog 67 #[v, .func (.func g) #[] lb] w fun e w' => e = .returned (.bool (l.any p)) ∧ Below w.heap.size w w' := by
 have hi := idxStr_any g lb eg p l A v w h hA hm hp
 obtain ⟨R, hR⟩ : ∃ R, l.any p = R := ⟨_, rfl⟩
 rw [hR] at hi ⊢
 clear hR hp h
 go_enter Tryz.func67, Tryz.ntmps67
 go_wp2_with (go_at_call 112; refine hi.mono ?_; rintro e w' ⟨⟨i, rfl, hi⟩, hb⟩)
 all_goals
  go_ret
  refine ⟨ret_bool ?_, hb⟩
  simp
theorem idxAcl_any (g : Nat) (lb : Array Value) (eg : ∀ args w, (callFunc g args).run Tryz.prog w = .ok (.enter g args) w) (p : AclD → Bool) (l : List AclD) (A : Nat → Prop) (v : Value) (w : World) (h : SlR A w 3 v (l.map AclD.cells))
  (hA : ∀ b, A b → b < w.heap.size) (hm : l.length ≤ 1048576) (hp : PredOn g lb (fun x => .agg x.cells.toArray) p l w) :
  Calls Tryz.prog 151 #[v, .func (.func g) #[] lb] w fun e w' => IdxPost (l.any p) e ∧ Below w.heap.size w w' := by
 obtain ⟨n, hn⟩ : ∃ n, l.length = n := ⟨_, rfl⟩
 obtain ⟨s, q, rfl⟩ := h.len'
 rw [List.length_map, hn] at h ⊢
 rw [hn] at hm
 obtain ⟨R, hR⟩ : ∃ R, l.any p = R := ⟨_, rfl⟩
 rw [hR]
 have HN := Lib.hid hn
 have HR := Lib.hid hR
 clear hn hR
 go_enter Tryz.func151, Tryz.ntmps151
 go_wp2
 go_loopw [5, 8] (fun _ i W => ∃ k : Nat, k ≤ n ∧ i = .int .i64 k ∧ RowKit.Hid ((l.drop k).any p = R) ∧ Below w.heap.size w W) (fun _ i _ => n - (intOf i).toNat)
 case atStart => exact ⟨0, Nat.zero_le _, rfl, HR, Below.refl _ _⟩
 case round =>
  obtain ⟨k, hk, rfl, HP, hb⟩ := hrel
  clear HR
  by_cases hlt : k < n
  ·have hkl : k < l.length := by rw [HN.out]; exact hlt
   obtain ⟨x, hx⟩ : ∃ x, l[k]? = some x := ⟨_, List.getElem?_eq_getElem hkl⟩
   have hxl : l[k] = x := (List.getElem?_eq_some_iff.1 hx).2
   have hr : (l.map AclD.cells)[k]? = some (AclD.cells x) := by rw [List.getElem?_map, hx]; rfl
   obtain ⟨b1, o1, n1, q1, e1, hb1, r1⟩ := h.row hr
   cases e1
   have r1 := range_below r1 hb (hA b1 hb1)
   have p0 := r1 0 (.int .i32 x.perms) rfl
   have p1 := r1 1 (.string x.id.scheme) rfl
   have p2 := r1 2 (.string x.id.id) rfl
   rw [Nat.add_zero] at p0
   have hcall := hp wr x (List.mem_of_getElem? hx) hb
   have hp' := HP.out
   rw [List.drop_eq_getElem_cons hkl, List.any_cons, hxl] at hp'
   clear HP hr hx hxl r1
   cases hq : p x with
   | true =>
    rw [hq] at hcall hp'
    rw [Bool.true_or] at hp'
    subst hp'
    clear hq
    go_wp2_with (go_at_fn g; refine hcall.mono ?_; rintro e w' ⟨rfl, hb'⟩)
    go_ret
    exact ⟨⟨_, rfl, by simp⟩, hb.trans (hb'.mono hb.size)⟩
   | false =>
    rw [hq] at hcall hp'
    rw [Bool.false_or] at hp'
    have HX := Lib.hid hp'
    clear hq hp'
    go_wp2_with (go_at_fn g; refine hcall.mono ?_; rintro e w' ⟨rfl, hb'⟩)
    go_roundw
    case rel => exact ⟨k + 1, by omega, by go_num, HX, hb.trans (hb'.mono hb.size)⟩
    case measure => simp [intOf]; omega
  ·obtain rfl : k = n := by omega
   have hp' := HP.out
   rw [List.drop_of_length_le (by rw [HN.out]; exact Nat.le_refl _), List.any_nil] at hp'
   subst hp'
   clear HP
   go_wp2
   go_ret
   exact ⟨⟨_, rfl, by decide⟩, hb⟩
theorem containsAcl_any (g : Nat) (lb : Array Value) (eg : ∀ args w, (callFunc g args).run Tryz.prog w = .ok (.enter g args) w) (p : AclD → Bool) (l : List AclD) (A : Nat → Prop) (v : Value) (w : World) (h : SlR A w 3 v (l.map AclD.cells))
  (hA : ∀ b, A b → b < w.heap.size) (hm : l.length ≤ 1048576) (hp : PredOn g lb (fun x => .agg x.cells.toArray) p l w) :
  Calls Tryz.prog 102 #[v, .func (.func g) #[] lb] w fun e w' => e = .returned (.bool (l.any p)) ∧ Below w.heap.size w w' := by
 have hi := idxAcl_any g lb eg p l A v w h hA hm hp
 obtain ⟨R, hR⟩ : ∃ R, l.any p = R := ⟨_, rfl⟩
 rw [hR] at hi ⊢
 clear hR hp h
 go_enter Tryz.func102, Tryz.ntmps102
 go_wp2_with (go_at_call 151; refine hi.mono ?_; rintro e w' ⟨⟨i, rfl, hi⟩, hb⟩)
 all_goals
  go_ret
  refine ⟨ret_bool ?_, hb⟩
  simp
theorem idxId_any (g : Nat) (lb : Array Value) (eg : ∀ args w, (callFunc g args).run Tryz.prog w = .ok (.enter g args) w) (p : IdD → Bool) (l : List IdD) (A : Nat → Prop) (v : Value) (w : World) (h : SlR A w 2 v (l.map IdD.cells))
  (hA : ∀ b, A b → b < w.heap.size) (hm : l.length ≤ 1048576) (hp : PredOn g lb (fun x => .agg x.cells.toArray) p l w) :
  Calls Tryz.prog 152 #[v, .func (.func g) #[] lb] w fun e w' => IdxPost (l.any p) e ∧ Below w.heap.size w w' := by
 obtain ⟨n, hn⟩ : ∃ n, l.length = n := ⟨_, rfl⟩
 obtain ⟨s, q, rfl⟩ := h.len'
 rw [List.length_map, hn] at h ⊢
 rw [hn] at hm
 obtain ⟨R, hR⟩ : ∃ R, l.any p = R := ⟨_, rfl⟩
 rw [hR]
 have HN := Lib.hid hn
 have HR := Lib.hid hR
 clear hn hR
 go_enter Tryz.func152, Tryz.ntmps152
 go_wp2
 go_loopw [5, 8] (fun _ i W => ∃ k : Nat, k ≤ n ∧ i = .int .i64 k ∧ RowKit.Hid ((l.drop k).any p = R) ∧ Below w.heap.size w W) (fun _ i _ => n - (intOf i).toNat)
 case atStart => exact ⟨0, Nat.zero_le _, rfl, HR, Below.refl _ _⟩
 case round =>
  obtain ⟨k, hk, rfl, HP, hb⟩ := hrel
  clear HR
  by_cases hlt : k < n
  ·have hkl : k < l.length := by rw [HN.out]; exact hlt
   obtain ⟨x, hx⟩ : ∃ x, l[k]? = some x := ⟨_, List.getElem?_eq_getElem hkl⟩
   have hxl : l[k] = x := (List.getElem?_eq_some_iff.1 hx).2
   have hr : (l.map IdD.cells)[k]? = some (IdD.cells x) := by rw [List.getElem?_map, hx]; rfl
   obtain ⟨b1, o1, n1, q1, e1, hb1, r1⟩ := h.row hr
   cases e1
   have r1 := range_below r1 hb (hA b1 hb1)
   have p0 := r1 0 (.string x.scheme) rfl
   have p1 := r1 1 (.string x.id) rfl
   rw [Nat.add_zero] at p0
   have hcall := hp wr x (List.mem_of_getElem? hx) hb
   have hp' := HP.out
   rw [List.drop_eq_getElem_cons hkl, List.any_cons, hxl] at hp'
   clear HP hr hx hxl r1
   cases hq : p x with
   | true =>
    rw [hq] at hcall hp'
    rw [Bool.true_or] at hp'
    subst hp'
    clear hq
    go_wp2_with (go_at_fn g; refine hcall.mono ?_; rintro e w' ⟨rfl, hb'⟩)
    go_ret
    exact ⟨⟨_, rfl, by simp⟩, hb.trans (hb'.mono hb.size)⟩
   | false =>
    rw [hq] at hcall hp'
    rw [Bool.false_or] at hp'
    have HX := Lib.hid hp'
    clear hq hp'
    go_wp2_with (go_at_fn g; refine hcall.mono ?_; rintro e w' ⟨rfl, hb'⟩)
    go_roundw
    case rel => exact ⟨k + 1, by omega, by go_num, HX, hb.trans (hb'.mono hb.size)⟩
    case measure => simp [intOf]; omega
  ·obtain rfl : k = n := by omega
   have hp' := HP.out
   rw [List.drop_of_length_le (by rw [HN.out]; exact Nat.le_refl _), List.any_nil] at hp'
   subst hp'
   clear HP
   go_wp2
   go_ret
   exact ⟨⟨_, rfl, by decide⟩, hb⟩
theorem containsId_any (g : Nat) (lb : Array Value) (eg : ∀ args w, (callFunc g args).run Tryz.prog w = .ok (.enter g args) w) (p : IdD → Bool) (l : List IdD) (A : Nat → Prop) (v : Value) (w : World) (h : SlR A w 2 v (l.map IdD.cells))
  (hA : ∀ b, A b → b < w.heap.size) (hm : l.length ≤ 1048576) (hp : PredOn g lb (fun x => .agg x.cells.toArray) p l w) :
  Calls Tryz.prog 104 #[v, .func (.func g) #[] lb] w fun e w' => e = .returned (.bool (l.any p)) ∧ Below w.heap.size w w' := by
 have hi := idxId_any g lb eg p l A v w h hA hm hp
 obtain ⟨R, hR⟩ : ∃ R, l.any p = R := ⟨_, rfl⟩
 rw [hR] at hi ⊢
 clear hR hp h
 go_enter Tryz.func104, Tryz.ntmps104
 go_wp2_with (go_at_call 152; refine hi.mono ?_; rintro e w' ⟨⟨i, rfl, hi⟩, hb⟩)
 all_goals
  go_ret
  refine ⟨ret_bool ?_, hb⟩
  simp
set_option maxHeartbeats 2000000
theorem pkind_any (r : Int) (w : World) : Calls Tryz.prog 257 #[.int .i32 r] w fun e w' => e = .returned (.int .i64 (kindD r)) ∧ w' = w := by
 go_enter Tryz.func257, Tryz.ntmps257
 go_wp2
 all_goals
  go_ret
  refine ⟨ret_int ?_, rfl⟩
  unfold kindD
  repeat' split
 all_goals first | rfl | (exfalso; omega) | (exfalso; simp_all; done) | (exfalso; simp_all; omega)
def ofD (l : List UInt8) : Int := if BadC l then 8 else kindD (Lib.decodeL l).1
theorem ofD_plain (l : List UInt8) : ofD l = 1 ↔ PlainC l := by
 unfold ofD PlainC
 by_cases h : BadC l <;> simp [h]
theorem prefix_three (l : List UInt8) : Lib.hasPrefix l [239, 191, 189] = decide (2 < l.length ∧ l.getD 0 0 = 239 ∧ l.getD 1 0 = 191 ∧ l.getD 2 0 = 189) := by
 rcases l with _ | ⟨a, _ | ⟨b, _ | ⟨c, t⟩⟩⟩
 ·rfl
 ·rw [decide_eq_false (by simp)]; simp [Lib.hasPrefix, List.isPrefixOf]
 ·rw [decide_eq_false (by simp)]; simp [Lib.hasPrefix, List.isPrefixOf]
 ·rw [Bool.eq_iff_iff, decide_eq_true_eq]
  show ((239 == a) && ((191 == b) && ((189 == c) && true))) = true ↔ 2 < (a :: b :: c :: t).length ∧ a = 239 ∧ b = 191 ∧ c = 189
  simp only [Bool.and_eq_true, beq_iff_eq, and_true, List.length_cons]
  constructor
  ·rintro ⟨rfl, rfl, rfl⟩; exact ⟨by omega, rfl, rfl, rfl⟩
  ·rintro ⟨_, rfl, rfl, rfl⟩; exact ⟨rfl, rfl, rfl⟩
theorem tail_list (s : ByteArray) (pos : Nat) : (s.extract pos s.size).data.toList = s.data.toList.drop pos := by
 rw [Lib.extract_data s pos s.size, List.take_of_length_le (by rw [List.length_drop, size_list]; omega)]
theorem pof_any (s : ByteArray) (pos : Nat) (w : World) (_hs : s.size ≤ 4611686018427387904) (hp : pos ≤ s.size) :
  Calls Tryz.prog 220 #[.string s, .int .i64 pos, .int .i32 (Utf8.decode s pos).1] w fun e w' => e = .returned (.int .i64 (ofD (s.data.toList.drop pos))) ∧ w' = w := by
 have hd := Lib.decodeL_drop s pos
 have hle := decode_le s pos
 have hH := Tryz.strings_HasPrefix (s.extract pos s.size) ⟨#[239, 191, 189]⟩ w
 rw [show ((⟨#[239, 191, 189]⟩ : ByteArray).data.toList) = [239, 191, 189] from rfl, tail_list, prefix_three] at hH
 have hb := bad_prefix (s.data.toList.drop pos)
 rw [hd] at hb
 have hO : ofD (s.data.toList.drop pos) = if BadC (s.data.toList.drop pos) then 8 else kindD (Utf8.decode s pos).1 := by unfold ofD; rw [hd]
 have hB : BadC (s.data.toList.drop pos) → (Utf8.decode s pos).1 = 65533 := fun h => by rw [← hd]; exact h.1
 obtain ⟨r, hr⟩ : ∃ r, (Utf8.decode s pos).1 = r := ⟨_, rfl⟩
 rw [hr] at hO hb hle hB ⊢
 obtain ⟨R, hR⟩ : ∃ R, ofD (s.data.toList.drop pos) = R := ⟨_, rfl⟩
 rw [hR] at hO ⊢
 by_cases h : r = 65533
 ·have hz : (r : Int) = 65533 := by omega
  subst h
  have hb := hb rfl
  by_cases hbad : BadC (s.data.toList.drop pos)
  ·rw [if_pos hbad] at hO
   subst hO
   rw [decide_eq_false (hb.1 hbad)] at hH
   clear hb hbad hd hB hr hR hz
   go_enter Tryz.func220, Tryz.ntmps220
   go_wp2_with (first | (go_at_call 256; refine hH.mono ?_; rintro e w' ⟨rfl, rfl⟩) | (go_at_call 257; refine (pkind_any _ _).mono ?_; rintro e w' ⟨rfl, rfl⟩))
   go_ret
   exact ⟨rfl, rfl⟩
  ·rw [if_neg hbad] at hO
   subst hO
   rw [decide_eq_true (Classical.not_not.1 (fun hn => hbad (hb.2 hn)))] at hH
   clear hb hbad hd hB hr hR hz
   go_enter Tryz.func220, Tryz.ntmps220
   go_wp2_with (first | (go_at_call 256; refine hH.mono ?_; rintro e w' ⟨rfl, rfl⟩) | (go_at_call 257; refine (pkind_any _ _).mono ?_; rintro e w' ⟨rfl, rfl⟩))
   go_ret
   exact ⟨rfl, rfl⟩
 ·have hz : ((r : Int) == 65533) = false := by simp; omega
  have hbad : ¬ BadC (s.data.toList.drop pos) := fun hx => h (hB hx)
  rw [if_neg hbad] at hO
  subst hO
  clear hb hbad hd hB hr hR hH h
  go_enter Tryz.func220, Tryz.ntmps220
  go_wp2_with (first | (go_at_call 257; refine (pkind_any _ _).mono ?_; rintro e w' ⟨rfl, rfl⟩) | fail)
  go_ret
  exact ⟨rfl, rfl⟩
def FirstPost (R : Int) (e : Ending) : Prop := ∃ k : Int, e = .returned (.tuple #[.int .i64 R, .int .i64 k])
theorem first_any (s : ByteArray) (w : World) (hs : s.size ≤ 4611686018427387904) :
  Calls Tryz.prog 193 #[.string s] w fun e w' => FirstPost (firstAt s.size 0 s.data.toList) e ∧ Below w.heap.size w w' := by
 obtain ⟨R, hR⟩ : ∃ R, firstAt s.size 0 s.data.toList = R := ⟨_, rfl⟩
 rw [hR]
 have HR := Lib.hid hR
 clear hR
 go_enter Tryz.func193, Tryz.ntmps193
 go_wp2
 go_loopw [2, 3] (fun _ _ wr => ∃ pos fuel : Nat, wr.heap[w.heap.size]? = some (.stringIter s pos) ∧ RowKit.Hid (Below w.heap.size w wr) ∧ RowKit.Hid (firstAt fuel pos (s.data.toList.drop pos) = R) ∧ s.size ≤ pos + fuel) (fun _ _ wr => s.size - wr.iterPos w.heap.size)
 case atStart =>
  refine ⟨0, s.size, by simpa using World.iter_heap w s 0, Lib.hid ((Below.refl _ w).alloc (Nat.le_refl _) _), ?_, by omega⟩
  rw [List.drop_zero]; exact HR
 case round =>
  obtain ⟨pos, fuel, hit, HB, HP, hfu⟩ := hrel
  clear HR
  have hsz : w.heap.size < wr.heap.size := (Array.getElem?_eq_some_iff.1 hit).1
  by_cases hp : pos < s.size
  ·have hnx : ∀ ty, (Instr.next (.pointer (some ⟨w.heap.size, 0, none⟩)) true ty).run Tryz.prog wr = _ := fun ty => Lib.run_next_any_at wr w.heap.size s pos ty hit hp
   have hd1 := decode_le s pos
   have hit2 := Lib.iterAt_heap wr w.heap.size s pos (pos + (Utf8.decode s pos).2) hit
   have HB2 := Lib.hid (Lib.below_iterAt HB.out (k := w.heap.size) (Nat.le_refl _) s (pos + (Utf8.decode s pos).2))
   have hwd : 1 ≤ (Utf8.decode s pos).2 := by rw [← Lib.decodeL_drop]; exact Lib.decodeL_width _
   have hwl : (Utf8.decode s pos).2 ≤ s.size - pos := by
    rw [← Lib.decodeL_drop]
    have := Lib.decodeL_le (s.data.toList.drop pos) (by intro h; have := congrArg List.length h; rw [List.length_drop, size_list] at this; simp at this; omega)
    rwa [List.length_drop, size_list] at this
   obtain ⟨f, rfl⟩ : ∃ f, fuel = f + 1 := ⟨fuel - 1, by omega⟩
   have hx := HP.out
   unfold firstAt at hx
   rw [if_neg (by intro h; have := congrArg List.length h; rw [List.length_drop, size_list] at this; simp at this; omega), Lib.decodeL_drop, List.drop_drop] at hx
   have hO := pof_any s pos (wr.iterAt w.heap.size s (pos + (Utf8.decode s pos).2)) hs (by omega)
   have hpl := ofD_plain (s.data.toList.drop pos)
   obtain ⟨K, hK⟩ : ∃ K, ofD (s.data.toList.drop pos) = K := ⟨_, rfl⟩
   rw [hK] at hO hpl
   by_cases hc : K = 1
   ·rw [if_pos (hpl.1 hc)] at hx
    have HX := Lib.hid hx
    subst hc
    clear hpl hx HP HB hK
    go_wp2_with (go_at_call 220; refine hO.mono ?_; rintro e w' ⟨rfl, rfl⟩)
    go_roundw
    case rel => exact ⟨pos + (Utf8.decode s pos).2, f, hit2, HB2, HX, by omega⟩
    case measure => simp only [World.iterPos, hit2, hit]; omega
   ·rw [if_neg (fun h => hc (hpl.2 h))] at hx
    have hc' : (K == 1) = false := by simpa using hc
    subst hx
    clear hpl HP HB hK hc
    go_wp2_with (go_at_call 220; refine hO.mono ?_; rintro e w' ⟨rfl, rfl⟩)
    go_ret2
    exact ⟨⟨_, rfl⟩, HB2.out⟩
  ·have hnx : ∀ ty, (Instr.next (.pointer (some ⟨w.heap.size, 0, none⟩)) true ty).run Tryz.prog wr = _ := fun ty => Lib.run_next_end_at wr w.heap.size s pos ty hit hp
   have hx := HP.out
   rw [List.drop_of_length_le (by rw [size_list]; omega)] at hx
   have hx : (-1 : Int) = R := by rw [← hx]; cases fuel <;> simp [firstAt]
   subst hx
   clear HP
   go_wp2
   go_ret2
   exact ⟨⟨_, rfl⟩, HB.out⟩
theorem cut_seg (l : List UInt8) : (Lib.cut l [47]).1 = seg l := by
 have h1 := upTo_index 47 l
 have h2 := upTo_take 47 l
 have h3 := upTo_le 47 l
 have e : seg l = upTo 47 l := rfl
 rw [e]
 unfold Lib.cut
 rw [Lib.index_one, h1]
 by_cases h : (upTo 47 l).length < l.length
 ·rw [if_pos h, if_pos (by omega)]
  simpa using h2
 ·rw [if_neg h, if_neg (by omega)]
  rw [← h2, List.take_of_length_le (by omega)]
theorem firstAt_ge : ∀ (n i : Nat) (l : List UInt8), firstAt n i l = -1 ∨ (i : Int) ≤ firstAt n i l
 | 0, _, _ => .inl rfl
 | n + 1, i, l => by
  unfold firstAt
  split
  ·exact .inl rfl
  ·split
   ·rcases firstAt_ge n (i + (Lib.decodeL l).2) (l.drop (Lib.decodeL l).2) with h | h
    ·exact .inl h
    ·exact .inr (by omega)
   ·exact .inr (Int.le_refl _)
theorem plain_slash (t : List UInt8) : PlainC (47 :: t) := by
 have h := Lib.decodeL_ascii 47 t (by decide)
 refine ⟨?_, ?_⟩
 ·unfold BadC; rw [h]; decide
 ·rw [h]; decide
theorem decode_slash (s : ByteArray) (pos : Nat) (h : pos < s.size) : (Utf8.decode s pos).1 = 47 ↔ s[pos] = 47 := by
 by_cases hb : (s[pos]).toNat < 128
 ·rw [decode_ascii s pos h hb]
  exact ⟨fun e => UInt8.toNat_inj.1 e, fun e => by rw [e]; rfl⟩
 ·have := (Go.decode_high s pos h (by omega)).1
  refine ⟨fun e => by omega, fun e => ?_⟩
  rw [e] at hb
  exact absurd (by decide) hb
theorem pcheck_any (s : ByteArray) (w : World) (hs : s.size ≤ 4611686018427387904) (G : Glob w) :
  Calls Tryz.prog 150 #[.string s] w fun e w' => CheckPost (pathD s) e ∧ Below w.heap.size w w' := by
 obtain ⟨R, hR⟩ : ∃ R, pathD s = R := ⟨_, rfl⟩
 rw [hR]
 unfold pathD at hR
 by_cases h0 : s.size = 0
 ·obtain rfl : s = ⟨#[]⟩ := by
   obtain ⟨⟨l⟩⟩ := s
   have : l = [] := List.eq_nil_of_length_eq_zero h0
   rw [this]
  rw [decide_eq_false (by decide), Bool.false_and] at hR
  subst hR
  go_enter Tryz.func150, Tryz.ntmps150
  go_wp2
  go_step3
  go_wp2
  try rw [Exit.noGoto_ret]
  go_ret2
  exact ⟨check_post (by decide), Below.refl _ _⟩
 have e0 := isEmpty_of h0
 have hp0 : 0 < s.size := by omega
 have g0 : s.get! 0 = s[0] := get_lt s 0 hp0
 have g1 : s.get! (s.size - 1) = s[s.size - 1] := get_lt s _ (by omega)
 rw [g0, g1] at hR
 clear g0 g1
 by_cases h1 : s.size ≤ 4096
 case neg =>
  rw [decide_eq_false (by omega), Bool.false_and] at hR
  subst hR
  have h1z : (4096 : Int) < s.size := by omega
  go_enter Tryz.func150, Tryz.ntmps150
  go_wp2
  go_step3
  go_wp2
  try rw [Exit.noGoto_ret]
  go_ret2
  exact ⟨check_post (by decide), Below.refl _ _⟩
 by_cases h2 : s[0] = 47
 case neg =>
  rw [decide_eq_false (fun h => h2 h.2.2), Bool.false_and] at hR
  subst hR
  have h2z : ¬ (s[0].toNat : Int) = 47 := fun h => h2 (UInt8.toNat_inj.1 (by show _ = 47; omega))
  go_enter Tryz.func150, Tryz.ntmps150
  go_wp2
  go_step3
  go_wp2
  try rw [Exit.noGoto_ret]
  go_ret2
  exact ⟨check_post (by decide), Below.refl _ _⟩
 rw [decide_eq_true (show 0 < s.size ∧ s.size ≤ 4096 ∧ s[0] = 47 from ⟨hp0, h1, h2⟩), Bool.true_and] at hR
 have h2z : (s[0].toNat : Int) = 47 := by rw [h2]; rfl
 by_cases h3 : s.size = 1
 ·have e1 := is_slash h3 h2
  rw [decide_eq_true h3, Bool.true_or] at hR
  subst hR
  clear h3 h2
  go_enter Tryz.func150, Tryz.ntmps150
  go_wp2
  go_step3
  go_wp2
  try rw [Exit.noGoto_ret]
  go_ret2
  exact ⟨check_post (by decide), Below.refl _ _⟩
 have e1 := not_slash h3
 rw [decide_eq_false h3, Bool.false_or] at hR
 by_cases h4 : s[s.size - 1] = 47
 ·rw [decide_eq_false (by simpa using h4), Bool.false_and] at hR
  subst hR
  have h4z : (s[s.size - 1].toNat : Int) = 47 := by rw [h4]; rfl
  clear h2 h4
  go_enter Tryz.func150, Tryz.ntmps150
  go_wp2
  go_step3
  go_wp2
  try rw [Exit.noGoto_ret]
  go_ret2
  exact ⟨check_post (by decide), Below.refl _ _⟩
 rw [decide_eq_true (by simpa using h4), Bool.true_and] at hR
 have h4z : ¬ (s[s.size - 1].toNat : Int) = 47 := fun h => h4 (UInt8.toNat_inj.1 (by show _ = 47; omega))
 have h4b : ((s[s.size - 1].toNat : Int) == 47) = false := beq_eq_false_iff_ne.2 h4z
 have hF := first_any s w hs
 obtain ⟨F, hF'⟩ : ∃ F, firstAt s.size 0 s.data.toList = F := ⟨_, rfl⟩
 rw [hF'] at hF
 replace hR := Lib.hid hR
 have HF := Lib.hid hF'
 clear h2 h4 h3 h4z hF'
 go_enter Tryz.func150, Tryz.ntmps150
 go_wp2
 go_step3
 go_wp2_with (go_at_call 193; refine hF.mono ?_; rintro e w1 ⟨⟨k1, rfl⟩, hb1⟩)
 go_step3
 go_wp2
 have hs1 := hb1.size
 have HB1 := Lib.hid hb1
 clear hF hb1
 go_loopw [2, 3, 6, 9, 10, 11] (fun _ _ b _ _ _ wr => ∃ pos fuel bg : Nat, b = .int .i64 bg ∧ bg ≤ pos ∧ wr.heap[w1.heap.size]? = some (.stringIter s pos) ∧ RowKit.Hid (Below w1.heap.size w1 wr) ∧
   RowKit.Hid (firstAt fuel pos (s.data.toList.drop pos) = F) ∧ RowKit.Hid (pathGo fuel (decide (0 < pos ∧ bg = pos)) (s.data.toList.drop pos) = R) ∧ s.size ≤ pos + fuel) (fun _ _ _ _ _ _ wr => s.size - wr.iterPos w1.heap.size)
 case atStart =>
  refine ⟨0, s.size, 0, rfl, Nat.le_refl _, by simpa using World.iter_heap w1 s 0, Lib.hid ((Below.refl _ w1).alloc (Nat.le_refl _) _), ?_, ?_, by omega⟩
  ·rw [List.drop_zero]; exact HF
  ·rw [List.drop_zero]; exact Lib.hid hR.out
 case round =>
  obtain ⟨pos, fuel, bg, rfl, hbg, hit, HB, HQ, HP, hfu⟩ := hrel
  clear hR HF
  have hsz : w1.heap.size < wr.heap.size := (Array.getElem?_eq_some_iff.1 hit).1
  by_cases hp : pos < s.size
  ·have hnx : ∀ ty, (Instr.next (.pointer (some ⟨w1.heap.size, 0, none⟩)) true ty).run Tryz.prog wr = _ := fun ty => Lib.run_next_any_at wr w1.heap.size s pos ty hit hp
   have hd1 := decode_le s pos
   have hit2 := Lib.iterAt_heap wr w1.heap.size s pos (pos + (Utf8.decode s pos).2) hit
   have hbm := Lib.below_iterAt HB.out (k := w1.heap.size) (Nat.le_refl _) s (pos + (Utf8.decode s pos).2)
   have HB2 := Lib.hid hbm
   have HW : RowKit.Hid (Below w.heap.size w (wr.iterAt w1.heap.size s (pos + (Utf8.decode s pos).2))) := Lib.hid (HB1.out.trans (hbm.mono hs1))
   have hne : s.data.toList.drop pos ≠ [] := by intro h; have := congrArg List.length h; rw [List.length_drop, size_list] at this; simp at this; omega
   have hwd : 1 ≤ (Utf8.decode s pos).2 := by rw [← Lib.decodeL_drop]; exact Lib.decodeL_width _
   have hwl : (Utf8.decode s pos).2 ≤ s.size - pos := by
    rw [← Lib.decodeL_drop]
    have := Lib.decodeL_le (s.data.toList.drop pos) hne
    rwa [List.length_drop, size_list] at this
   obtain ⟨f, rfl⟩ : ∃ f, fuel = f + 1 := ⟨fuel - 1, by omega⟩
   have hx := HQ.out
   unfold firstAt at hx
   rw [if_neg hne, Lib.decodeL_drop, List.drop_drop] at hx
   have hdc := drop_cons' s pos hp
   have hsl := decode_slash s pos hp
   clear hbm
   by_cases hpl : PlainC (s.data.toList.drop pos)
   ·rw [if_pos hpl] at hx
    have hge := firstAt_ge f (pos + (Utf8.decode s pos).2) (s.data.toList.drop (pos + (Utf8.decode s pos).2))
    rw [hx] at hge
    have hnF : ((pos : Int) == F) = false := by simp; omega
    have HX := Lib.hid hx
    clear hx hge HQ
    by_cases hc : s[pos] = 47
    ·have hr47 := hsl.2 hc
     have hda : (Utf8.decode s pos).2 = 1 := by rw [decode_ascii s pos hp (by rw [hc]; decide)]
     have hy := HP.out
     rw [hdc, hc, path_slash] at hy
     rw [hda] at hit2 HB2 HX HW hnx
     have hrz : ((Utf8.decode s pos).1 : Int) = 47 := by omega
     clear hdc hc hpl hsl hwd hwl hne HB HP
     by_cases hv : 0 < pos ∧ bg = pos
     ·rw [decide_eq_true hv, Bool.not_true, Bool.false_and, Bool.false_and] at hy
      subst hy
      obtain ⟨hv1, rfl⟩ := hv
      have hv2 : (0 : Int) < bg := by omega
      clear HX
      go_wp2
      try rw [Exit.noGoto_ret]
      go_ret2
      exact ⟨check_post (by decide), HW.out⟩
     ·rw [decide_eq_false hv, Bool.not_false, Bool.true_and] at hy
      have HY := Lib.hid hy
      obtain ⟨mx, hmx⟩ := (G.below HW.out).max
      have hcut := Tryz.strings_Cut (s.extract (pos + 1) s.size) ⟨#[47]⟩ mx _ (by have : (s.extract (pos + 1) s.size).size ≤ s.size := (by rw [ByteArray.size_extract]; omega); omega) hmx
      clear hmx
      rw [show ((⟨#[47]⟩ : ByteArray).data.toList) = [47] from rfl, tail_list, cut_seg] at hcut
      obtain ⟨p, hpp⟩ : ∃ p : ByteArray, (⟨(seg (s.data.toList.drop (pos + 1))).toArray⟩ : ByteArray) = p := ⟨_, rfl⟩
      rw [hpp] at hcut
      have hpl2 : p.toList = seg (s.data.toList.drop (pos + 1)) := by rw [ByteArray.toList_eq, ← hpp, List.toList_toArray]
      have hvz : (0 < (pos : Int) → ((bg : Int) == (pos : Int)) = false) := by intro h; simp; omega
      have hps : (pos : Int) + 1 ≤ s.size := by omega
      clear hy hpp
      by_cases h0p : 0 < pos
      ·have hq0 : (0 : Int) < pos := by omega
       have hq1 : ((bg : Int) == (pos : Int)) = false := by simp; omega
       clear hvz h0p
       by_cases q1 : seg (s.data.toList.drop (pos + 1)) = [46]
       ·have hx := HY.out
        rw [decide_eq_false (fun h => h.1 q1), Bool.false_and] at hx
        subst hx
        have r1 : (p.toList == [46]) = true := by rw [hpl2, q1]; rfl
        clear hpl2 q1 HX HY
        go_wp2_with (go_at_call 194; refine hcut.mono ?_; rintro e w' ⟨rfl, m, rfl⟩)
        try rw [Exit.noGoto_ret]
        go_ret2
        exact ⟨check_post (by decide), below_drewN' HW.out _⟩
       ·have r1 : (p.toList == [46]) = false := by rw [hpl2]; exact beq_eq_false_iff_ne.2 q1
        by_cases q2 : seg (s.data.toList.drop (pos + 1)) = [46, 46]
        ·have hx := HY.out
         rw [decide_eq_false (fun h => h.2 q2), Bool.false_and] at hx
         subst hx
         have r2 : (p.toList == [46, 46]) = true := by rw [hpl2, q2]; rfl
         clear hpl2 q1 q2 HX HY
         go_wp2_with (go_at_call 194; refine hcut.mono ?_; rintro e w' ⟨rfl, m, rfl⟩)
         try rw [Exit.noGoto_ret]
         go_ret2
         exact ⟨check_post (by decide), below_drewN' HW.out _⟩
        ·have hx := HY.out
         rw [decide_eq_true (show SegOk (s.data.toList.drop (pos + 1)) from ⟨q1, q2⟩), Bool.true_and] at hx
         have r2 : (p.toList == [46, 46]) = false := by rw [hpl2]; exact beq_eq_false_iff_ne.2 q2
         have HZ := Lib.hid hx
         clear hpl2 q1 q2 HY hx
         go_wp2_with (go_at_call 194; refine hcut.mono ?_; rintro e w' ⟨rfl, m, rfl⟩)
         go_roundw
         case rel => exact ⟨pos + 1, f, pos + 1, by go_num, Nat.le_refl _, hit2, Lib.hid (below_drewN' HB2.out _), HX, (by have e : decide (0 < pos + 1 ∧ pos + 1 = pos + 1) = true := decide_eq_true ⟨by omega, rfl⟩; rw [e]; exact HZ), by omega⟩
         case measure => simp only [World.iterPos]; show s.size - (match (wr.iterAt w1.heap.size s (pos + 1)).heap[w1.heap.size]? with | some (.stringIter _ p) => p | _ => 0) < _; rw [hit2, hit]; simp only; omega
      ·have hq0 : ¬ (0 : Int) < pos := by omega
       clear hvz h0p
       by_cases q1 : seg (s.data.toList.drop (pos + 1)) = [46]
       ·have hx := HY.out
        rw [decide_eq_false (fun h => h.1 q1), Bool.false_and] at hx
        subst hx
        have r1 : (p.toList == [46]) = true := by rw [hpl2, q1]; rfl
        clear hpl2 q1 HX HY
        go_wp2_with (go_at_call 194; refine hcut.mono ?_; rintro e w' ⟨rfl, m, rfl⟩)
        try rw [Exit.noGoto_ret]
        go_ret2
        exact ⟨check_post (by decide), below_drewN' HW.out _⟩
       ·have r1 : (p.toList == [46]) = false := by rw [hpl2]; exact beq_eq_false_iff_ne.2 q1
        by_cases q2 : seg (s.data.toList.drop (pos + 1)) = [46, 46]
        ·have hx := HY.out
         rw [decide_eq_false (fun h => h.2 q2), Bool.false_and] at hx
         subst hx
         have r2 : (p.toList == [46, 46]) = true := by rw [hpl2, q2]; rfl
         clear hpl2 q1 q2 HX HY
         go_wp2_with (go_at_call 194; refine hcut.mono ?_; rintro e w' ⟨rfl, m, rfl⟩)
         try rw [Exit.noGoto_ret]
         go_ret2
         exact ⟨check_post (by decide), below_drewN' HW.out _⟩
        ·have hx := HY.out
         rw [decide_eq_true (show SegOk (s.data.toList.drop (pos + 1)) from ⟨q1, q2⟩), Bool.true_and] at hx
         have r2 : (p.toList == [46, 46]) = false := by rw [hpl2]; exact beq_eq_false_iff_ne.2 q2
         have HZ := Lib.hid hx
         clear hpl2 q1 q2 HY hx
         go_wp2_with (go_at_call 194; refine hcut.mono ?_; rintro e w' ⟨rfl, m, rfl⟩)
         go_roundw
         case rel => exact ⟨pos + 1, f, pos + 1, by go_num, Nat.le_refl _, hit2, Lib.hid (below_drewN' HB2.out _), HX, (by have e : decide (0 < pos + 1 ∧ pos + 1 = pos + 1) = true := decide_eq_true ⟨by omega, rfl⟩; rw [e]; exact HZ), by omega⟩
         case measure => simp only [World.iterPos]; show s.size - (match (wr.iterAt w1.heap.size s (pos + 1)).heap[w1.heap.size]? with | some (.stringIter _ p) => p | _ => 0) < _; rw [hit2, hit]; simp only; omega
    ·have hrn : ¬ ((Utf8.decode s pos).1 : Int) = 47 := fun h => hc (hsl.1 (by omega))
     have hy := HP.out
     rw [path_char _ _ _ hne (by rw [hdc]; exact hc), decide_eq_true hpl, Bool.true_and, Lib.decodeL_drop, List.drop_drop] at hy
     have HY := Lib.hid (show pathGo f (decide (0 < pos + (Utf8.decode s pos).2 ∧ bg = pos + (Utf8.decode s pos).2)) (s.data.toList.drop (pos + (Utf8.decode s pos).2)) = R by rw [decide_eq_false (by omega)]; exact hy)
     clear hdc hc hpl hsl hne HB HP hy
     go_wp2
     go_roundw
     case rel => exact ⟨pos + (Utf8.decode s pos).2, f, bg, rfl, by omega, hit2, HB2, HX, HY, by omega⟩
     case measure => simp only [World.iterPos, hit2, hit]; omega
   ·rw [if_neg hpl] at hx
    have hcn : ¬ s[pos] = 47 := fun h => hpl (by rw [hdc, h]; exact plain_slash _)
    have hy := HP.out
    rw [path_char _ _ _ hne (by rw [hdc]; exact hcn), decide_eq_false hpl, Bool.false_and] at hy
    subst hy
    subst hx
    clear hdc hcn hpl hsl hne HB HP HQ hwd hwl
    go_wp2
    try rw [Exit.noGoto_ret]
    go_ret2
    exact ⟨check_post (by decide), HW.out⟩
  ·have hnx : ∀ ty, (Instr.next (.pointer (some ⟨w1.heap.size, 0, none⟩)) true ty).run Tryz.prog wr = _ := fun ty => Lib.run_next_end_at wr w1.heap.size s pos ty hit hp
   have hy := HP.out
   rw [List.drop_of_length_le (by rw [size_list]; omega), path_end] at hy
   subst hy
   clear HP HQ
   go_wp2
   try rw [Exit.noGoto_ret]
   go_ret2
   exact ⟨check_post (by decide), HB1.out.trans (HB.out.mono hs1)⟩
set_option maxHeartbeats 4000000
theorem pvalid_any (s : ByteArray) (w : World) (hs : s.size ≤ 4611686018427387904) (G : Glob w) :
  Calls Tryz.prog 69 #[.string s] w fun e w' => e = .returned (.bool (u8D s)) ∧ Below w.heap.size w w' :=
 Any.utf8_ValidString Tryz.laysValid s w (by omega) G.tab
theorem bad_rune (r : Nat) : badR r = true ↔ ((r : Int) < 33 ∨ (r : Int) = 127 ∨ (r : Int) = 44) := by
 unfold badR
 simp only [Bool.or_eq_true, decide_eq_true_eq]
 omega
theorem ptext_any (s : ByteArray) (w : World) (hs : s.size ≤ 4611686018427387904) (G : Glob w) :
  Calls Tryz.prog 189 #[.string s] w fun e w' => e = .returned (.bool (textL s.data.toList)) ∧ Below w.heap.size w w' := by
 have hV := pvalid_any s w hs G
 obtain ⟨R, hR⟩ : ∃ R, textL s.data.toList = R := ⟨_, rfl⟩
 rw [hR]
 unfold textL at hR
 rw [size_list] at hR
 have hU : Lib.validD s.data.toList = u8D s := rfl
 rw [hU] at hR
 by_cases h0 : s.size = 0
 ·obtain rfl : s = ⟨#[]⟩ := by
   obtain ⟨⟨l⟩⟩ := s
   have : l = [] := List.eq_nil_of_length_eq_zero h0
   rw [this]
  rw [decide_eq_false (by decide), Bool.false_and, Bool.false_and] at hR
  subst hR
  go_enter Tryz.func189, Tryz.ntmps189
  go_wp2
  go_ret
  exact ⟨rfl, Below.refl _ _⟩
 have e0 := isEmpty_of h0
 by_cases h1 : s.size ≤ 256
 case neg =>
  rw [decide_eq_false (by omega), Bool.false_and, Bool.false_and] at hR
  subst hR
  have h1z : (256 : Int) < s.size := by omega
  go_enter Tryz.func189, Tryz.ntmps189
  go_wp2
  go_ret
  exact ⟨rfl, Below.refl _ _⟩
 have h1z : ¬ (256 : Int) < s.size := by omega
 rw [decide_eq_true (show 0 < s.size ∧ s.size ≤ 256 by omega), Bool.true_and] at hR
 generalize u8D s = U at hR hV
 cases U with
 | false =>
  rw [Bool.false_and] at hR
  subst hR
  go_enter Tryz.func189, Tryz.ntmps189
  go_wp2_with (go_at_call 69; refine hV.mono ?_; rintro e w1 ⟨rfl, hb1⟩)
  go_ret
  exact ⟨rfl, hb1⟩
 | true =>
  rw [Bool.true_and, ← runesGo_eq s.size s.data.toList (by rw [size_list]; exact Nat.le_refl _)] at hR
  have HR := Lib.hid hR
  clear hR
  go_enter Tryz.func189, Tryz.ntmps189
  go_wp2_with (go_at_call 69; refine hV.mono ?_; rintro e w1 ⟨rfl, hb1⟩)
  have hs1 := hb1.size
  have HB1 := Lib.hid hb1
  clear hV hb1
  go_loopw [2] (fun _ wr => ∃ pos fuel : Nat, wr.heap[w1.heap.size]? = some (.stringIter s pos) ∧ RowKit.Hid (Below w1.heap.size w1 wr) ∧ RowKit.Hid (runesGo fuel (s.data.toList.drop pos) = R) ∧ s.size ≤ pos + fuel) (fun _ wr => s.size - wr.iterPos w1.heap.size)
  case atStart =>
   refine ⟨0, s.size, by simpa using World.iter_heap w1 s 0, Lib.hid ((Below.refl _ w1).alloc (Nat.le_refl _) _), ?_, by omega⟩
   rw [List.drop_zero]; exact HR
  case round =>
   obtain ⟨pos, fuel, hit, HB, HP, hfu⟩ := hrel
   clear HR
   have hsz : w1.heap.size < wr.heap.size := (Array.getElem?_eq_some_iff.1 hit).1
   by_cases hp : pos < s.size
   ·have hnx : ∀ ty, (Instr.next (.pointer (some ⟨w1.heap.size, 0, none⟩)) true ty).run Tryz.prog wr = _ := fun ty => Lib.run_next_any_at wr w1.heap.size s pos ty hit hp
    have hd1 := decode_le s pos
    have hit2 := Lib.iterAt_heap wr w1.heap.size s pos (pos + (Utf8.decode s pos).2) hit
    have HB2 := Lib.hid (Lib.below_iterAt HB.out (k := w1.heap.size) (Nat.le_refl _) s (pos + (Utf8.decode s pos).2))
    have hne : s.data.toList.drop pos ≠ [] := by intro h; have := congrArg List.length h; rw [List.length_drop, size_list] at this; simp at this; omega
    have hwd : 1 ≤ (Utf8.decode s pos).2 := by rw [← Lib.decodeL_drop]; exact Lib.decodeL_width _
    have hwl : (Utf8.decode s pos).2 ≤ s.size - pos := by
     rw [← Lib.decodeL_drop]
     have := Lib.decodeL_le (s.data.toList.drop pos) hne
     rwa [List.length_drop, size_list] at this
    obtain ⟨f, rfl⟩ : ∃ f, fuel = f + 1 := ⟨fuel - 1, by omega⟩
    have hx := HP.out
    unfold runesGo at hx
    rw [if_neg hne, Lib.decodeL_drop, List.drop_drop] at hx
    have hbr := bad_rune (Utf8.decode s pos).1
    obtain ⟨r, hr⟩ : ∃ r, (Utf8.decode s pos).1 = r := ⟨_, rfl⟩
    obtain ⟨wd, hwd'⟩ : ∃ r, (Utf8.decode s pos).2 = r := ⟨_, rfl⟩
    rw [hr, hwd'] at hnx
    rw [hr] at hx hbr hd1
    rw [hwd'] at hx hit2 HB2 hwd hwl
    cases hb : badR r with
    | true =>
     rw [hb, if_pos rfl] at hx
     subst hx
     have hb' := hbr.1 hb
     clear HP HB hbr hb hne hwd hwl hr hwd'
     by_cases c1 : (r : Int) < 33
     ·clear hb'
      go_wp2
      go_ret
      exact ⟨rfl, HB1.out.trans (HB2.out.mono hs1)⟩
     ·by_cases c2 : (r : Int) = 127
      ·clear hb'
       go_wp2
       go_ret
       exact ⟨rfl, HB1.out.trans (HB2.out.mono hs1)⟩
      ·have c3 : (r : Int) = 44 := by omega
       have c2' : ((r : Int) == 127) = false := by simpa using c2
       clear hb' c2
       go_wp2
       go_ret
       exact ⟨rfl, HB1.out.trans (HB2.out.mono hs1)⟩
    | false =>
     rw [hb, if_neg (by decide)] at hx
     have hb' : ¬ ((r : Int) < 33 ∨ (r : Int) = 127 ∨ (r : Int) = 44) := fun h => by rw [hbr.2 h] at hb; exact absurd hb (by decide)
     have c1 : ¬ (r : Int) < 33 := fun h => hb' (.inl h)
     have c2 : ((r : Int) == 127) = false := by simp; omega
     have c3 : ((r : Int) == 44) = false := by simp; omega
     have HX := Lib.hid hx
     clear HP HB hbr hb hne hb' hx hr hwd'
     go_wp2
     go_roundw
     case rel => exact ⟨pos + wd, f, hit2, HB2, HX, by omega⟩
     case measure => simp only [World.iterPos, hit2, hit]; omega
   ·have hnx : ∀ ty, (Instr.next (.pointer (some ⟨w1.heap.size, 0, none⟩)) true ty).run Tryz.prog wr = _ := fun ty => Lib.run_next_end_at wr w1.heap.size s pos ty hit hp
    have hx := HP.out
    rw [List.drop_of_length_le (by rw [size_list]; omega)] at hx
    have hx : true = R := by rw [← hx]; cases fuel <;> simp [runesGo]
    subst hx
    clear HP
    go_wp2
    go_ret
    exact ⟨rfl, HB1.out.trans (HB.out.mono hs1)⟩
theorem pdigest_any (s : ByteArray) (w : World) (hs : s.size ≤ 1048576) (G : Glob w) :
  Calls Tryz.prog 190 #[.string s] w fun e w' => e = .returned (.bool (digestL s.data.toList)) ∧ w' = w := by
 rw [← digest_lib]
 obtain ⟨m, hm⟩ := G.max
 have hI := Tryz.strings_Index s ⟨#[58]⟩ m w (by omega) hm
 clear hm
 rw [show ((⟨#[58]⟩ : ByteArray).data.toList) = [58] from rfl] at hI
 generalize Lib.index s.data.toList [58] = I at hI ⊢
 by_cases h : 0 < I
 ·rw [decide_eq_true h]
  go_enter Tryz.func190, Tryz.ntmps190
  go_wp2_with (go_at_call 217; refine hI.mono ?_; rintro e w1 ⟨rfl, rfl⟩)
  go_ret
  exact ⟨rfl, rfl⟩
 ·rw [decide_eq_false h]
  go_enter Tryz.func190, Tryz.ntmps190
  go_wp2_with (go_at_call 217; refine hI.mono ?_; rintro e w1 ⟨rfl, rfl⟩)
  go_ret
  exact ⟨ret_bool (by simpa using h), rfl⟩
end Go.Proofs.YtfgjiidbafdndaaGreatDoor
