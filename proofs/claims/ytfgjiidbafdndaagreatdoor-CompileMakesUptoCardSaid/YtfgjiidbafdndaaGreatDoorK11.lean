/- Transactions in the document's words: paths, and what is too great. -/
import Derived.Test.YtfgjiidbafdndaaGreatDoorK9
import Derived.Test.YtfgjiidbafdndaaGreatDoorK7
import Derived.Test.YtfgjiidbafdndaaGreatDoorK5
namespace Go.Proofs.YtfgjiidbafdndaaGreatDoor
open Go.RowKit
set_option maxHeartbeats 8000000
set_option maxRecDepth 100000
structure TxnA (A : Nat → Prop) (w : World) (f : TxnF) (n : Nat) (cs : List Value) : Prop where
 ex : ∃ vd va vi vp vs, cs = f.cells vd va vi vp vs ∧ SlR A w 1 vd (f.data.map byteCells) ∧ SlR A w 3 va (f.acl.map AclD.cells) ∧ SlR A w 2 vi (f.ids.map IdD.cells) ∧
  SlR A w 1 vp (f.paths.map strCells) ∧ ∃ rows, SlR A w 16 vs rows ∧ rows.length = n
theorem TxnR.own {A : Nat → Prop} {w : World} {f : TxnF} {subs : List TxnD} {cs : List Value} (h : TxnR A w (.mk f subs) cs) : TxnA A w f subs.length cs := by
 rw [TxnR] at h
 obtain ⟨vd, va, vi, vp, vs, rows, h0, h1, h2, h3, h4, h5, h6⟩ := h
 exact ⟨vd, va, vi, vp, vs, h0, h1, h2, h3, h4, rows, h5, h6.len⟩
def hasF (t : Int) (c : UInt8) : Bool := (fieldsL t).contains c
def rootB (p : ByteArray) : Bool := p.toList == [47]
def badP (p : ByteArray) : Bool := !pathD p || rootB p
def named13 (f : TxnF) : Bool := (hasF f.type 112 && (!pathD f.path || (rootB f.path && (f.type == 1 || f.type == 2)))) || (hasF f.type 108 && f.paths.any badP)
def longI (x : IdD) : Bool := decide (256 < x.scheme.size) || decide (256 < x.id.size)
def great13 (f : TxnF) (n : Nat) : Bool := decide (1048575 < f.data.length) || (decide (16 < f.acl.length) || (decide (1024 < f.paths.length) || (decide (1024 < n) || (f.acl.any (fun a => longI a.id) || f.ids.any longI))))
theorem fields_size (t : Int) : (⟨(fieldsL t).toArray⟩ : ByteArray).size ≤ maxLen := by
 rcases type_cases t with rfl | rfl | rfl | rfl | rfl | rfl | rfl | rfl | rfl | rfl | rfl | h
 case inr.inr.inr.inr.inr.inr.inr.inr.inr.inr.inr => rw [other_fields h]; decide
 all_goals decide
theorem hasF_any (t : Int) (c : UInt8) (w : World) : Calls Tryz.prog 114 #[.string ⟨(fieldsL t).toArray⟩, .int .u8 c.toNat] w fun e w' => e = .returned (.bool (hasF t c)) ∧ w' = w := by
 have := has_any ⟨(fieldsL t).toArray⟩ c w (fields_size t)
 simpa [hasF] using this
abbrev ZC110 (x0 : TxnF) (x1 : Option Addr) (x2 x3 : Nat) (x4 : Option Addr) (x5 x6 : Nat) (x7 : Option Addr) (x8 x9 : Nat) (x10 : Option Addr) (x11 x12 : Nat) (x13 : Option Addr) (x14 x15 : Nat) : Obj := (.cells #[.int .i32 x0.type, .string x0.path, .slice x1 x2 x3, .slice x4 x5 x6, .int .i64 x0.owner, .int .i32 x0.version, .int .i32 x0.creates, .bool x0.has, .int .i64 x0.count, .int .i64 x0.bytes, .int .i64 x0.sid, .int .i32 x0.timeout, .slice x7 x8 x9, .slice x10 x11 x12, .int .i32 x0.code, .slice x13 x14 x15] 33)
theorem refnamed_any (f : TxnF) (hf : f.Ok) (n : Nat) (A : Nat → Prop) (cs : List Value) (w : World) (h : TxnA A w f n cs) (hA : ∀ b, A b → b < w.heap.size) :
  Calls Tryz.prog 72 #[.agg cs.toArray] w fun e w' => e = .returned (.int .i64 (if named13 f = true then 30 else 0)) ∧ Below w.heap.size w w' := by
 obtain ⟨v1, v2, v3, v4, v5, rfl, h1, h2, h3, h4, rows, h5, hn5⟩ := h.ex
 clear h
 obtain ⟨n1, hn1⟩ : ∃ n, f.data.length = n := ⟨_, rfl⟩
 obtain ⟨n2, hn2⟩ : ∃ n, f.acl.length = n := ⟨_, rfl⟩
 obtain ⟨n3, hn3⟩ : ∃ n, f.ids.length = n := ⟨_, rfl⟩
 obtain ⟨n4, hn4⟩ : ∃ n, f.paths.length = n := ⟨_, rfl⟩
 have m1 : n1 ≤ 1048576 := by rw [← hn1]; exact hf.data
 have m2 : n2 ≤ 1048576 := by rw [← hn2]; exact hf.acl
 have m3 : n3 ≤ 1048576 := by rw [← hn3]; exact hf.ids
 have m4 : n4 ≤ 1048576 := by rw [← hn4]; exact hf.paths
 obtain ⟨s1, p1, rfl⟩ := h1.len'
 obtain ⟨s2, p2, rfl⟩ := h2.len'
 obtain ⟨s3, p3, rfl⟩ := h3.len'
 obtain ⟨s4, p4, rfl⟩ := h4.len'
 obtain ⟨s5, p5, rfl⟩ := h5.len'
 rw [List.length_map, hn1] at h1 ⊢
 rw [List.length_map, hn2] at h2 ⊢
 rw [List.length_map, hn3] at h3 ⊢
 rw [List.length_map, hn4] at h4 ⊢
 rw [hn5] at h5 ⊢
 replace hn1 := Lib.hid hn1
 replace hn2 := Lib.hid hn2
 replace hn3 := Lib.hid hn3
 replace hn4 := Lib.hid hn4
 replace hn5 := Lib.hid hn5
 have hbb : Below w.heap.size w (w.alloc (ZC110 f s1 n1 p1 s2 n2 p2 s3 n3 p3 s4 n4 p4 s5 n p5)) := (Below.refl w.heap.size w).alloc (Nat.le_refl _) _
 unfold TxnF.cells
 have hF := fields_any f.type (w.alloc (ZC110 f s1 n1 p1 s2 n2 p2 s3 n3 p3 s4 n4 p4 s5 n p5))
 have hP := hasF_any f.type 112 (w.alloc (ZC110 f s1 n1 p1 s2 n2 p2 s3 n3 p3 s4 n4 p4 s5 n p5))
 have hL := hasF_any f.type 108 (w.alloc (ZC110 f s1 n1 p1 s2 n2 p2 s3 n3 p3 s4 n4 p4 s5 n p5))
 have hV := valid_any f.path (w.alloc (ZC110 f s1 n1 p1 s2 n2 p2 s3 n3 p3 s4 n4 p4 s5 n p5)) (by have := hf.path; omega)
 unfold named13
 obtain ⟨F, hF'⟩ : ∃ F : ByteArray, (⟨(fieldsL f.type).toArray⟩ : ByteArray) = F := ⟨_, rfl⟩
 rw [hF'] at hF hP hL
 unfold rootB
 obtain ⟨S, hS⟩ : ∃ S, (f.path.toList == [47]) = S := ⟨_, rfl⟩
 obtain ⟨T1, hT1⟩ : ∃ S, (f.type == 1) = S := ⟨_, rfl⟩
 obtain ⟨T2, hT2⟩ : ∃ S, (f.type == 2) = S := ⟨_, rfl⟩
 rw [hS, hT1, hT2]
 generalize pathD f.path = V at hV ⊢
 generalize hasF f.type 112 = P at hP ⊢
 generalize hasF f.type 108 = L at hL ⊢
 replace hP : Calls Tryz.prog 114 #[.string F, .int .u8 112] (w.alloc (ZC110 f s1 n1 p1 s2 n2 p2 s3 n3 p3 s4 n4 p4 s5 n p5)) fun e w' => e = .returned (.bool P) ∧ w' = (w.alloc (ZC110 f s1 n1 p1 s2 n2 p2 s3 n3 p3 s4 n4 p4 s5 n p5)) := hP
 replace hL : Calls Tryz.prog 114 #[.string F, .int .u8 108] (w.alloc (ZC110 f s1 n1 p1 s2 n2 p2 s3 n3 p3 s4 n4 p4 s5 n p5)) fun e w' => e = .returned (.bool L) ∧ w' = (w.alloc (ZC110 f s1 n1 p1 s2 n2 p2 s3 n3 p3 s4 n4 p4 s5 n p5)) := hL
 clear hF'
 cases hfirst : (P && (!V || (S && (T1 || T2)))) with
 | true =>
  rw [Bool.true_or, if_pos rfl]
  clear hL
  cases P <;> cases V <;> cases S <;> cases T1 <;> cases T2 <;> simp at hfirst
  all_goals
   go_enter Tryz.func72, Tryz.ntmps72
   go_wp2_with (first
    | (go_at_call 39; refine hF.mono ?_; rintro e w' ⟨rfl, rfl⟩)
    | (go_at_call 114; refine hP.mono ?_; rintro e w' ⟨rfl, rfl⟩)
    | (go_at_call 115; refine hV.mono ?_; rintro e w' ⟨rfl, rfl⟩))
   go_ret
   exact ⟨rfl, hbb⟩
 | false =>
  rw [Bool.false_or]
  have X : (w.alloc (ZC110 f s1 n1 p1 s2 n2 p2 s3 n3 p3 s4 n4 p4 s5 n p5)).cell? ⟨w.heap.size, 13, none⟩ = some (.slice s4 n4 p4) := st_at (heap_alloc_new w (ZC110 f s1 n1 p1 s2 n2 p2 s3 n3 p3 s4 n4 p4 s5 n p5)) rfl
  have h4' := h4.below hA hbb
  have hpz := hf.paths1
  clear h1 h2 h3 h5
  have hpre : P = false ∨ (P = true ∧ V = true ∧ S = false) ∨ (P = true ∧ V = true ∧ S = true ∧ T1 = false ∧ T2 = false) := by
   cases P <;> cases V <;> cases S <;> cases T1 <;> cases T2 <;> simp at hfirst ⊢
  clear hfirst
  rcases hpre with rfl | ⟨rfl, rfl, rfl⟩ | ⟨rfl, rfl, rfl, rfl, rfl⟩
  all_goals
   cases L with
   | false =>
    rw [Bool.false_and, if_neg (by decide)]
    go_enter Tryz.func72, Tryz.ntmps72
    go_wp2_with (first
     | (go_at_call 39; refine hF.mono ?_; rintro e w' ⟨rfl, rfl⟩)
     | (go_at_call 114; refine hP.mono ?_; rintro e w' ⟨rfl, rfl⟩)
     | (go_at_call 115; refine hV.mono ?_; rintro e w' ⟨rfl, rfl⟩))
    go_loop [2, 4] (fun _ i => i = .int .i64 0) (fun _ _ => 0)
    case atStart => rfl
    case round =>
     obtain rfl := hrel
     go_wp2_with (go_at_call 114; refine hL.mono ?_; rintro e w' ⟨rfl, rfl⟩)
     go_ret
     exact ⟨rfl, hbb⟩
   | true =>
    rw [Bool.true_and]
    obtain ⟨R, hR⟩ : ∃ R, f.paths.any badP = R := ⟨_, rfl⟩
    rw [hR]
    have HR := Lib.hid hR
    clear hR
    go_enter Tryz.func72, Tryz.ntmps72
    go_wp2_with (first
     | (go_at_call 39; refine hF.mono ?_; rintro e w' ⟨rfl, rfl⟩)
     | (go_at_call 114; refine hP.mono ?_; rintro e w' ⟨rfl, rfl⟩)
     | (go_at_call 115; refine hV.mono ?_; rintro e w' ⟨rfl, rfl⟩))
    go_loop [2, 4] (fun _ i => ∃ k : Nat, k ≤ n4 ∧ i = .int .i64 k ∧ RowKit.Hid ((f.paths.drop k).any badP = R)) (fun _ i => n4 - (intOf i).toNat)
    case atStart => exact ⟨0, Nat.zero_le _, rfl, HR⟩
    case round =>
     obtain ⟨k, hk, rfl, HP⟩ := hrel
     clear HR
     by_cases hlt : k < n4
     ·have hkl : k < f.paths.length := by rw [hn4.out]; exact hlt
      obtain ⟨x, hx⟩ : ∃ x, f.paths[k] = x := ⟨_, rfl⟩
      have hr : (f.paths.map strCells)[k]? = some (strCells x) := by rw [List.getElem?_map, List.getElem?_eq_getElem hkl, hx]; rfl
      have hV2 := valid_any x (w.alloc (ZC110 f s1 n1 p1 s2 n2 p2 s3 n3 p3 s4 n4 p4 s5 n p5)) (by have := hpz x (by rw [← hx]; exact List.getElem_mem hkl); omega)
      obtain ⟨b1, o1, nn1, q1, e1, hb1, r1⟩ := h4'.row hr
      cases e1
      have c0 := r1 0 (.string x) rfl
      rw [Nat.add_zero, Nat.mul_one] at c0
      have hp := HP.out
      rw [List.drop_eq_getElem_cons hkl, List.any_cons, hx] at hp
      have hbd : badP x = (!pathD x || (x.toList == [47])) := rfl
      rw [hbd] at hp
      obtain ⟨S2, hS2⟩ : ∃ S, (x.toList == [47]) = S := ⟨_, rfl⟩
      rw [hS2] at hp
      generalize pathD x = V2 at hV2 hp
      have HX : RowKit.Hid ((!V2 || S2 || (f.paths.drop (k + 1)).any badP) = R) := Lib.hid hp
      clear hp HP hr r1 hx hbd
      cases hbad : (!V2 || S2) with
      | true =>
       have hp := HX.out
       rw [hbad, Bool.true_or] at hp
       subst hp
       clear HX
       cases V2 <;> cases S2 <;> simp at hbad
       all_goals
        go_wp2_with (first
         | (go_at_call 114; refine hL.mono ?_; rintro e w' ⟨rfl, rfl⟩)
         | (go_at_call 115; refine hV2.mono ?_; rintro e w' ⟨rfl, rfl⟩))
        go_ret
        exact ⟨rfl, hbb⟩
      | false =>
       have hp := HX.out
       rw [hbad, Bool.false_or] at hp
       have HX2 := Lib.hid hp
       clear HX hp
       cases V2 <;> cases S2 <;> simp at hbad
       go_wp2_with (first
        | (go_at_call 114; refine hL.mono ?_; rintro e w' ⟨rfl, rfl⟩)
        | (go_at_call 115; refine hV2.mono ?_; rintro e w' ⟨rfl, rfl⟩))
       go_round
       case rel => exact ⟨k + 1, by omega, by go_num, HX2⟩
       case measure => simp [intOf]; omega
     ·obtain rfl : k = n4 := by omega
      have hp := HP.out
      rw [List.drop_of_length_le (by rw [hn4.out]; exact Nat.le_refl _), List.any_nil] at hp
      subst hp
      clear HP
      go_wp2_with (go_at_call 114; refine hL.mono ?_; rintro e w' ⟨rfl, rfl⟩)
      go_ret
      exact ⟨rfl, hbb⟩
set_option maxHeartbeats 64000000
def spare13 (f : TxnF) (n : Nat) : Bool :=
 (!hasF f.type 112 && !f.path.toList.isEmpty) || ((!hasF f.type 100 && decide (0 < f.data.length)) || ((!hasF f.type 97 && decide (0 < f.acl.length)) || ((!hasF f.type 111 && f.owner != 0) || ((!hasF f.type 110 && f.creates != 0) || ((!hasF f.type 118 && f.version != 0) ||
 ((!hasF f.type 113 && !eqQuotaD f.has false f.count 0 f.bytes 0) || ((!hasF f.type 108 && decide (0 < f.paths.length)) || ((!hasF f.type 99 && f.code != 0) || ((!hasF f.type 109 && decide (0 < n)) ||
 (!hasF f.type 115 && (f.sid != 0 || (f.timeout != 0 || decide (0 < f.ids.length)))))))))))))
theorem three (a b : Bool) : a = true ∨ (a = false ∧ b = true) ∨ (a = false ∧ b = false) := by cases a <;> cases b <;> simp
theorem rows15 {w : World} {b : Nat} {v0 v1 v2 v3 v4 v5 v6 v7 v8 v9 v10 v11 v12 v13 v14 : Value} {cs r : List Value} (hc : cs = v0 :: v1 :: v2 :: v3 :: v4 :: v5 :: v6 :: v7 :: v8 :: v9 :: v10 :: v11 :: v12 :: v13 :: v14 :: r) (h : w.rangeAt b 0 cs) :
  w.cell? ⟨b, 0, none⟩ = some v0 ∧ w.cell? ⟨b, 1, none⟩ = some v1 ∧ w.cell? ⟨b, 2, none⟩ = some v2 ∧ w.cell? ⟨b, 3, none⟩ = some v3 ∧ w.cell? ⟨b, 4, none⟩ = some v4 ∧ w.cell? ⟨b, 5, none⟩ = some v5 ∧ w.cell? ⟨b, 6, none⟩ = some v6 ∧ w.cell? ⟨b, 7, none⟩ = some v7 ∧ w.cell? ⟨b, 8, none⟩ = some v8 ∧ w.cell? ⟨b, 9, none⟩ = some v9 ∧ w.cell? ⟨b, 10, none⟩ = some v10 ∧ w.cell? ⟨b, 11, none⟩ = some v11 ∧ w.cell? ⟨b, 12, none⟩ = some v12 ∧ w.cell? ⟨b, 13, none⟩ = some v13 ∧ w.cell? ⟨b, 14, none⟩ = some v14 := by
 subst hc
 exact ⟨h 0 _ rfl, h 1 _ rfl, h 2 _ rfl, h 3 _ rfl, h 4 _ rfl, h 5 _ rfl, h 6 _ rfl, h 7 _ rfl, h 8 _ rfl, h 9 _ rfl, h 10 _ rfl, h 11 _ rfl, h 12 _ rfl, h 13 _ rfl, h 14 _ rfl⟩
theorem refspare_any (f : TxnF) (_hf : f.Ok) (n : Nat) (A : Nat → Prop) (cs : List Value) (w : World) (h : TxnA A w f n cs) (_hA : ∀ b, A b → b < w.heap.size) :
  Calls Tryz.prog 74 #[.agg cs.toArray] w fun e w' => e = .returned (.bool (spare13 f n)) ∧ Below w.heap.size w w' := by
 obtain ⟨v1, v2, v3, v4, v5, hcs, h1, h2, h3, h4, rows, h5, hn5⟩ := h.ex
 clear h
 obtain ⟨n1, hn1⟩ := nm f.data.length
 obtain ⟨n2, hn2⟩ := nm f.acl.length
 obtain ⟨n3, hn3⟩ := nm f.ids.length
 obtain ⟨n4, hn4⟩ := nm f.paths.length
 obtain ⟨s1, p1, rfl⟩ := h1.len'
 obtain ⟨s2, p2, rfl⟩ := h2.len'
 obtain ⟨s3, p3, rfl⟩ := h3.len'
 obtain ⟨s4, p4, rfl⟩ := h4.len'
 obtain ⟨s5, p5, rfl⟩ := h5.len'
 rw [List.length_map, hn1, List.length_map, hn2, List.length_map, hn3, List.length_map, hn4, hn5] at hcs
 have hbb : Below w.heap.size w (w.alloc (.cells cs.toArray 33)) := (Below.refl w.heap.size w).alloc (Nat.le_refl _) _
 have hr0 : (w.alloc (.cells cs.toArray 33)).rangeAt w.heap.size 0 cs := st_range (heap_alloc_new w _)
 have X15 := hr0 15 _ (by rw [hcs]; rfl)
 replace hr0 := rows15 hcs hr0
 obtain ⟨X0, X1, X2, X3, X4, X5, X6, X7, X8, X9, X10, X11, X12, X13, X14⟩ := hr0
 clear hcs hn5 h1 h2 h3 h4 h5
 have hF := fields_any f.type (w.alloc (.cells cs.toArray 33))
 obtain ⟨R, hR⟩ := nm (spare13 f n)
 rw [hR]
 unfold spare13 at hR
 rw [hn1, hn2, hn3, hn4] at hR
 have hq7 := neq_quota f.has false f.count 0 f.bytes 0
 obtain ⟨e7, he7⟩ := nm (!eqQuotaD f.has false f.count 0 f.bytes 0)
 obtain ⟨b1, hb1⟩ := nm f.path.toList.isEmpty
 obtain ⟨e4, he4⟩ := nm (f.owner != 0)
 obtain ⟨e5, he5⟩ := nm (f.creates != 0)
 obtain ⟨e6, he6⟩ := nm (f.version != 0)
 obtain ⟨e9, he9⟩ := nm (f.code != 0)
 obtain ⟨e11, he11⟩ := nm (f.sid != 0)
 obtain ⟨e12, he12⟩ := nm (f.timeout != 0)
 rw [he7] at hR hq7
 rw [hb1, he4, he5, he6, he9, he11, he12] at hR
 clear he7 hn1 hn2 hn3 hn4
 have c112 := hasF_any f.type 112 (w.alloc (.cells cs.toArray 33))
 have c100 := hasF_any f.type 100 (w.alloc (.cells cs.toArray 33))
 have c97 := hasF_any f.type 97 (w.alloc (.cells cs.toArray 33))
 have c111 := hasF_any f.type 111 (w.alloc (.cells cs.toArray 33))
 have c110 := hasF_any f.type 110 (w.alloc (.cells cs.toArray 33))
 have c118 := hasF_any f.type 118 (w.alloc (.cells cs.toArray 33))
 have c113 := hasF_any f.type 113 (w.alloc (.cells cs.toArray 33))
 have c108 := hasF_any f.type 108 (w.alloc (.cells cs.toArray 33))
 have c99 := hasF_any f.type 99 (w.alloc (.cells cs.toArray 33))
 have c109 := hasF_any f.type 109 (w.alloc (.cells cs.toArray 33))
 have c115 := hasF_any f.type 115 (w.alloc (.cells cs.toArray 33))
 obtain ⟨F, hF'⟩ := nm (⟨(fieldsL f.type).toArray⟩ : ByteArray)
 rw [hF'] at hF c112 c100 c97 c111 c110 c118 c113 c108 c99 c109 c115
 clear hF'
 generalize hasF f.type 112 = h112 at c112 hR
 replace c112 : Calls Tryz.prog 114 #[.string F, .int .u8 112] (w.alloc (.cells cs.toArray 33)) fun e w' => e = .returned (.bool h112) ∧ w' = (w.alloc (.cells cs.toArray 33)) := c112
 generalize hasF f.type 100 = h100 at c100 hR
 replace c100 : Calls Tryz.prog 114 #[.string F, .int .u8 100] (w.alloc (.cells cs.toArray 33)) fun e w' => e = .returned (.bool h100) ∧ w' = (w.alloc (.cells cs.toArray 33)) := c100
 generalize hasF f.type 97 = h97 at c97 hR
 replace c97 : Calls Tryz.prog 114 #[.string F, .int .u8 97] (w.alloc (.cells cs.toArray 33)) fun e w' => e = .returned (.bool h97) ∧ w' = (w.alloc (.cells cs.toArray 33)) := c97
 generalize hasF f.type 111 = h111 at c111 hR
 replace c111 : Calls Tryz.prog 114 #[.string F, .int .u8 111] (w.alloc (.cells cs.toArray 33)) fun e w' => e = .returned (.bool h111) ∧ w' = (w.alloc (.cells cs.toArray 33)) := c111
 generalize hasF f.type 110 = h110 at c110 hR
 replace c110 : Calls Tryz.prog 114 #[.string F, .int .u8 110] (w.alloc (.cells cs.toArray 33)) fun e w' => e = .returned (.bool h110) ∧ w' = (w.alloc (.cells cs.toArray 33)) := c110
 generalize hasF f.type 118 = h118 at c118 hR
 replace c118 : Calls Tryz.prog 114 #[.string F, .int .u8 118] (w.alloc (.cells cs.toArray 33)) fun e w' => e = .returned (.bool h118) ∧ w' = (w.alloc (.cells cs.toArray 33)) := c118
 generalize hasF f.type 113 = h113 at c113 hR
 replace c113 : Calls Tryz.prog 114 #[.string F, .int .u8 113] (w.alloc (.cells cs.toArray 33)) fun e w' => e = .returned (.bool h113) ∧ w' = (w.alloc (.cells cs.toArray 33)) := c113
 generalize hasF f.type 108 = h108 at c108 hR
 replace c108 : Calls Tryz.prog 114 #[.string F, .int .u8 108] (w.alloc (.cells cs.toArray 33)) fun e w' => e = .returned (.bool h108) ∧ w' = (w.alloc (.cells cs.toArray 33)) := c108
 generalize hasF f.type 99 = h99 at c99 hR
 replace c99 : Calls Tryz.prog 114 #[.string F, .int .u8 99] (w.alloc (.cells cs.toArray 33)) fun e w' => e = .returned (.bool h99) ∧ w' = (w.alloc (.cells cs.toArray 33)) := c99
 generalize hasF f.type 109 = h109 at c109 hR
 replace c109 : Calls Tryz.prog 114 #[.string F, .int .u8 109] (w.alloc (.cells cs.toArray 33)) fun e w' => e = .returned (.bool h109) ∧ w' = (w.alloc (.cells cs.toArray 33)) := c109
 generalize hasF f.type 115 = h115 at c115 hR
 replace c115 : Calls Tryz.prog 114 #[.string F, .int .u8 115] (w.alloc (.cells cs.toArray 33)) fun e w' => e = .returned (.bool h115) ∧ w' = (w.alloc (.cells cs.toArray 33)) := c115
 go_enter Tryz.func74, Tryz.ntmps74
 go_wp2_with fail
 with_reducible refine kept hF ?_; dsimp only
 iterate 9 (first | go_values | go_skip | go_guarded | go_step | go_upon | go_back)
 obtain ⟨x1, hx1⟩ := nm ((!h112 && !b1))
 refine wpList_cut 9 [8, 9, 10, 11, 12, 13, 14, 15] 16 x1 ?_ (fun us => ?_)
 ·simp only [List.take]; rcases Bool.eq_false_or_eq_true h112 with rfl | rfl <;> (simp at hx1; subst hx1; go_wp2_with (go_at_call 114; with_reducible refine kept c112 ?_; dsimp only); exact ⟨rfl, by kernel_rfl⟩)
 simp only [List.drop, puts, Act.put, List.setIfInBounds_toArray, List.set]
 obtain ⟨x2, hx2⟩ := nm (x1 || (!h100 && decide (0 < n1)))
 refine wpList_cut 11 [17, 18, 19, 20, 21, 22, 23, 24, 25, 26] 27 x2 ?_ (fun us => ?_)
 ·simp only [List.take]; rcases three x1 h100 with rfl | ⟨rfl, rfl⟩ | ⟨rfl, rfl⟩ <;> (simp at hx2; subst hx2; go_wp2_with (go_at_call 114; with_reducible refine kept c100 ?_; dsimp only); exact ⟨rfl, by kernel_rfl⟩)
 simp only [List.drop, puts, Act.put, List.setIfInBounds_toArray, List.set]
 obtain ⟨x3, hx3⟩ := nm (x2 || (!h97 && decide (0 < n2)))
 refine wpList_cut 11 [28, 29, 30, 31, 32, 33, 34, 35, 36, 37] 38 x3 ?_ (fun us => ?_)
 ·simp only [List.take]; rcases three x2 h97 with rfl | ⟨rfl, rfl⟩ | ⟨rfl, rfl⟩ <;> (simp at hx3; subst hx3; go_wp2_with (go_at_call 114; with_reducible refine kept c97 ?_; dsimp only); exact ⟨rfl, by kernel_rfl⟩)
 simp only [List.drop, puts, Act.put, List.setIfInBounds_toArray, List.set]
 obtain ⟨x4, hx4⟩ := nm (x3 || (!h111 && e4))
 refine wpList_cut 10 [39, 40, 41, 42, 43, 44, 45, 46, 47] 48 x4 ?_ (fun us => ?_)
 ·simp only [List.take]; rcases three x3 h111 with rfl | ⟨rfl, rfl⟩ | ⟨rfl, rfl⟩ <;> (simp at hx4; subst hx4; go_wp2_with (go_at_call 114; with_reducible refine kept c111 ?_; dsimp only); exact ⟨rfl, by kernel_rfl⟩)
 simp only [List.drop, puts, Act.put, List.setIfInBounds_toArray, List.set]
 obtain ⟨x5, hx5⟩ := nm (x4 || (!h110 && e5))
 refine wpList_cut 10 [49, 50, 51, 52, 53, 54, 55, 56, 57] 58 x5 ?_ (fun us => ?_)
 ·simp only [List.take]; rcases three x4 h110 with rfl | ⟨rfl, rfl⟩ | ⟨rfl, rfl⟩ <;> (simp at hx5; subst hx5; go_wp2_with (go_at_call 114; with_reducible refine kept c110 ?_; dsimp only); exact ⟨rfl, by kernel_rfl⟩)
 simp only [List.drop, puts, Act.put, List.setIfInBounds_toArray, List.set]
 obtain ⟨x6, hx6⟩ := nm (x5 || (!h118 && e6))
 refine wpList_cut 10 [59, 60, 61, 62, 63, 64, 65, 66, 67] 4 x6 ?_ (fun us => ?_)
 ·simp only [List.take]; rcases three x5 h118 with rfl | ⟨rfl, rfl⟩ | ⟨rfl, rfl⟩ <;> (simp at hx6; subst hx6; go_wp2_with (go_at_call 114; with_reducible refine kept c118 ?_; dsimp only); exact ⟨rfl, by kernel_rfl⟩)
 simp only [List.drop, puts, Act.put, List.setIfInBounds_toArray, List.set]
 iterate 5 (first | go_values | go_skip | go_guarded | go_step | go_upon | go_back)
 obtain ⟨x7, hx7⟩ := nm (x6 || (!h113 && e7))
 refine wpList_cut 13 [68, 69, 70, 71, 72, 73, 74, 75, 76, 77, 78, 79] 80 x7 ?_ (fun us => ?_)
 ·simp only [List.take]; rcases three x6 h113 with rfl | ⟨rfl, rfl⟩ | ⟨rfl, rfl⟩ <;> (simp at hx7; subst hx7; go_wp2_with (go_at_call 114; with_reducible refine kept c113 ?_; dsimp only); exact ⟨rfl, by kernel_rfl⟩)
 simp only [List.drop, puts, Act.put, List.setIfInBounds_toArray, List.set]
 obtain ⟨x8, hx8⟩ := nm (x7 || (!h108 && decide (0 < n4)))
 refine wpList_cut 11 [81, 82, 83, 84, 85, 86, 87, 88, 89, 90] 91 x8 ?_ (fun us => ?_)
 ·simp only [List.take]; rcases three x7 h108 with rfl | ⟨rfl, rfl⟩ | ⟨rfl, rfl⟩ <;> (simp at hx8; subst hx8; go_wp2_with (go_at_call 114; with_reducible refine kept c108 ?_; dsimp only); exact ⟨rfl, by kernel_rfl⟩)
 simp only [List.drop, puts, Act.put, List.setIfInBounds_toArray, List.set]
 obtain ⟨x9, hx9⟩ := nm (x8 || (!h99 && e9))
 refine wpList_cut 10 [92, 93, 94, 95, 96, 97, 98, 99, 100] 101 x9 ?_ (fun us => ?_)
 ·simp only [List.take]; rcases three x8 h99 with rfl | ⟨rfl, rfl⟩ | ⟨rfl, rfl⟩ <;> (simp at hx9; subst hx9; go_wp2_with (go_at_call 114; with_reducible refine kept c99 ?_; dsimp only); exact ⟨rfl, by kernel_rfl⟩)
 simp only [List.drop, puts, Act.put, List.setIfInBounds_toArray, List.set]
 obtain ⟨x10, hx10⟩ := nm (x9 || (!h109 && decide (0 < n)))
 refine wpList_cut 11 [102, 103, 104, 105, 106, 107, 108, 109, 110, 111] 4 x10 ?_ (fun us => ?_)
 ·simp only [List.take]; rcases three x9 h109 with rfl | ⟨rfl, rfl⟩ | ⟨rfl, rfl⟩ <;> (simp at hx10; subst hx10; go_wp2_with (go_at_call 114; with_reducible refine kept c109 ?_; dsimp only); exact ⟨rfl, by kernel_rfl⟩)
 simp only [List.drop, puts, Act.put, List.setIfInBounds_toArray, List.set]
 iterate 5 (first | go_values | go_skip | go_guarded | go_step | go_upon | go_back)
 obtain ⟨x11, hx11⟩ := nm (x10 || (!h115 && (e11 || (e12 || decide (0 < n3)))))
 refine wpList_cut 26 [112, 113, 114, 115, 116, 117, 118, 119, 120, 121, 122, 123, 124, 125, 126, 127, 128, 129, 130, 131, 132, 133, 134, 135, 136] 2 x11 ?_ (fun us => ?_)
 ·simp only [List.take]; rcases three x10 h115 with rfl | ⟨rfl, rfl⟩ | ⟨rfl, rfl⟩
  rotate_right
  rcases three e11 e12 with rfl | ⟨rfl, rfl⟩ | ⟨rfl, rfl⟩
  all_goals (simp at hx11; subst hx11; go_wp2_with (go_at_call 114; with_reducible refine kept c115 ?_; dsimp only); exact ⟨rfl, by kernel_rfl⟩)
 simp only [List.drop, puts, Act.put, List.setIfInBounds_toArray, List.set]
 go_wp2
 go_ret
 refine ⟨ret_bool ?_, hbb⟩
 rw [← hR]; subst_vars; simp only [Bool.or_assoc]
def b0D (n1 n2 n4 n : Nat) : Bool := decide (1048575 < n1) || (decide (16 < n2) || (decide (1024 < n4) || decide (1024 < n)))
abbrev ZC120 (x0 : TxnF) (x1 : Option Addr) (x2 x3 : Nat) (x4 : Option Addr) (x5 x6 : Nat) (x7 : Option Addr) (x8 x9 : Nat) (x10 : Option Addr) (x11 x12 : Nat) (x13 : Option Addr) (x14 x15 : Nat) : Obj := (.cells #[.int .i32 x0.type, .string x0.path, .slice x1 x2 x3, .slice x4 x5 x6, .int .i64 x0.owner, .int .i32 x0.version, .int .i32 x0.creates, .bool x0.has, .int .i64 x0.count, .int .i64 x0.bytes, .int .i64 x0.sid, .int .i32 x0.timeout, .slice x7 x8 x9, .slice x10 x11 x12, .int .i32 x0.code, .slice x13 x14 x15] 33)
theorem refgreat_any (f : TxnF) (hf : f.Ok) (n : Nat) (A : Nat → Prop) (cs : List Value) (w : World) (h : TxnA A w f n cs) (hA : ∀ b, A b → b < w.heap.size) :
  Calls Tryz.prog 73 #[.agg cs.toArray] w fun e w' => e = .returned (.bool (great13 f n)) ∧ Below w.heap.size w w' := by
 obtain ⟨v1, v2, v3, v4, v5, rfl, h1, h2, h3, h4, rows, h5, hn5⟩ := h.ex
 clear h
 obtain ⟨n1, hn1⟩ : ∃ n, f.data.length = n := ⟨_, rfl⟩
 obtain ⟨n2, hn2⟩ : ∃ n, f.acl.length = n := ⟨_, rfl⟩
 obtain ⟨n3, hn3⟩ : ∃ n, f.ids.length = n := ⟨_, rfl⟩
 obtain ⟨n4, hn4⟩ : ∃ n, f.paths.length = n := ⟨_, rfl⟩
 have m1 : n1 ≤ 1048576 := by rw [← hn1]; exact hf.data
 have m2 : n2 ≤ 1048576 := by rw [← hn2]; exact hf.acl
 have m3 : n3 ≤ 1048576 := by rw [← hn3]; exact hf.ids
 have m4 : n4 ≤ 1048576 := by rw [← hn4]; exact hf.paths
 obtain ⟨s1, p1, rfl⟩ := h1.len'
 obtain ⟨s2, p2, rfl⟩ := h2.len'
 obtain ⟨s3, p3, rfl⟩ := h3.len'
 obtain ⟨s4, p4, rfl⟩ := h4.len'
 obtain ⟨s5, p5, rfl⟩ := h5.len'
 rw [List.length_map, hn1] at h1 ⊢
 rw [List.length_map, hn2] at h2 ⊢
 rw [List.length_map, hn3] at h3 ⊢
 rw [List.length_map, hn4] at h4 ⊢
 rw [hn5] at h5 ⊢
 replace hn1 := Lib.hid hn1
 replace hn2 := Lib.hid hn2
 replace hn3 := Lib.hid hn3
 replace hn4 := Lib.hid hn4
 replace hn5 := Lib.hid hn5
 have hbb : Below w.heap.size w (w.alloc (ZC120 f s1 n1 p1 s2 n2 p2 s3 n3 p3 s4 n4 p4 s5 n p5)) := (Below.refl w.heap.size w).alloc (Nat.le_refl _) _
 unfold TxnF.cells
 have X3 : (w.alloc (ZC120 f s1 n1 p1 s2 n2 p2 s3 n3 p3 s4 n4 p4 s5 n p5)).cell? ⟨w.heap.size, 3, none⟩ = some (.slice s2 n2 p2) := st_at (heap_alloc_new w (ZC120 f s1 n1 p1 s2 n2 p2 s3 n3 p3 s4 n4 p4 s5 n p5)) rfl
 have X12 : (w.alloc (ZC120 f s1 n1 p1 s2 n2 p2 s3 n3 p3 s4 n4 p4 s5 n p5)).cell? ⟨w.heap.size, 12, none⟩ = some (.slice s3 n3 p3) := st_at (heap_alloc_new w (ZC120 f s1 n1 p1 s2 n2 p2 s3 n3 p3 s4 n4 p4 s5 n p5)) rfl
 have h2' := h2.below hA hbb
 have h3' := h3.below hA hbb
 obtain ⟨R, hR⟩ : ∃ R, great13 f n = R := ⟨_, rfl⟩
 rw [hR]
 have HR : RowKit.Hid ((b0D n1 n2 n4 n || (f.acl.any (fun a => longI a.id) || f.ids.any longI)) = R) := Lib.hid (by
  rw [← hR]; unfold great13 b0D; rw [hn1.out, hn2.out, hn4.out]; simp [Bool.or_assoc])
 clear hR h1 h2 h3 h4 h5
 obtain ⟨β0, hβ⟩ : ∃ β, b0D n1 n2 n4 n = β := ⟨_, rfl⟩
 rw [hβ] at HR
 have hcase : (β0 = true ∧ (1048575 : Int) < n1) ∨ (β0 = true ∧ ¬ ((1048575 : Int) < n1) ∧ (16 : Int) < n2) ∨ (β0 = true ∧ ¬ ((1048575 : Int) < n1) ∧ ¬ ((16 : Int) < n2) ∧ (1024 : Int) < n4) ∨
   (β0 = true ∧ ¬ ((1048575 : Int) < n1) ∧ ¬ ((16 : Int) < n2) ∧ ¬ ((1024 : Int) < n4) ∧ (1024 : Int) < n) ∨ (β0 = false ∧ ¬ ((1048575 : Int) < n1) ∧ ¬ ((16 : Int) < n2) ∧ ¬ ((1024 : Int) < n4) ∧ ¬ ((1024 : Int) < n)) := by
  unfold b0D at hβ
  by_cases g1 : 1048575 < n1
  ·rw [decide_eq_true g1, Bool.true_or] at hβ; exact .inl ⟨hβ.symm, by omega⟩
  rw [decide_eq_false g1, Bool.false_or] at hβ
  by_cases g2 : 16 < n2
  ·rw [decide_eq_true g2, Bool.true_or] at hβ; exact .inr (.inl ⟨hβ.symm, by omega, by omega⟩)
  rw [decide_eq_false g2, Bool.false_or] at hβ
  by_cases g3 : 1024 < n4
  ·rw [decide_eq_true g3, Bool.true_or] at hβ; exact .inr (.inr (.inl ⟨hβ.symm, by omega, by omega, by omega⟩))
  rw [decide_eq_false g3, Bool.false_or] at hβ
  by_cases g4 : 1024 < n
  ·rw [decide_eq_true g4] at hβ; exact .inr (.inr (.inr (.inl ⟨hβ.symm, by omega, by omega, by omega, by omega⟩)))
  ·rw [decide_eq_false g4] at hβ; exact .inr (.inr (.inr (.inr ⟨hβ.symm, by omega, by omega, by omega, by omega⟩)))
 clear hβ
 rcases hcase with ⟨rfl, g1⟩ | ⟨rfl, g1, g2⟩ | ⟨rfl, g1, g2, g3⟩ | ⟨rfl, g1, g2, g3, g4⟩ | ⟨rfl, g1, g2, g3, g4⟩
 all_goals
  go_enter Tryz.func73, Tryz.ntmps73
  go_wp2
  go_loop [3, 4] (fun b i => ∃ (k : Nat) (β : Bool), k ≤ n2 ∧ i = .int .i64 k ∧ b = .bool β ∧ RowKit.Hid ((β || ((f.acl.drop k).any (fun a => longI a.id) || f.ids.any longI)) = R)) (fun _ i => n2 - (intOf i).toNat)
  case atStart => exact ⟨0, _, Nat.zero_le _, rfl, rfl, HR⟩
  case round =>
   obtain ⟨k, β, hk, rfl, rfl, HP⟩ := hrel
   clear HR
   by_cases hlt : k < n2
   ·have hkl : k < f.acl.length := by rw [hn2.out]; exact hlt
    obtain ⟨x, hx⟩ : ∃ x, f.acl[k] = x := ⟨_, rfl⟩
    have hr : (f.acl.map AclD.cells)[k]? = some x.cells := by rw [List.getElem?_map, List.getElem?_eq_getElem hkl, hx]; rfl
    obtain ⟨b1, o1, nn1, q1, e1, hb1, r1⟩ := h2'.row hr
    cases e1
    have p1 := r1 1 (.string x.id.scheme) rfl
    have p2 := r1 2 (.string x.id.id) rfl
    have hp := HP.out
    rw [List.drop_eq_getElem_cons hkl, List.any_cons, hx] at hp
    have hlg : longI x.id = (decide (256 < x.id.scheme.size) || decide (256 < x.id.id.size)) := rfl
    rw [hlg] at hp
    have HX := Lib.hid hp
    clear hp HP hr r1 hx hlg
    cases β with
    | true =>
     have HX2 : RowKit.Hid ((true || ((f.acl.drop (k + 1)).any (fun a => longI a.id) || f.ids.any longI)) = R) := Lib.hid (by have := HX.out; rw [Bool.true_or] at this ⊢; exact this)
     go_wp2
     go_round
     case rel => exact ⟨k + 1, true, by omega, by go_num, rfl, HX2⟩
     case measure => simp [intOf]; omega
    | false =>
     by_cases d1 : 256 < x.id.scheme.size
     ·have d1z : (256 : Int) < x.id.scheme.size := by omega
      have HX2 : RowKit.Hid ((true || ((f.acl.drop (k + 1)).any (fun a => longI a.id) || f.ids.any longI)) = R) := Lib.hid (by have := HX.out; rw [decide_eq_true d1, Bool.true_or, Bool.true_or, Bool.false_or, Bool.true_or] at this; rw [Bool.true_or]; exact this)
      go_wp2
      go_round
      case rel => exact ⟨k + 1, true, by omega, by go_num, rfl, HX2⟩
      case measure => simp [intOf]; omega
     ·have d1z : ¬ (256 : Int) < x.id.scheme.size := by omega
      by_cases d2 : 256 < x.id.id.size
      ·have d2z : (256 : Int) < x.id.id.size := by omega
       have HX2 : RowKit.Hid ((true || ((f.acl.drop (k + 1)).any (fun a => longI a.id) || f.ids.any longI)) = R) := Lib.hid (by have := HX.out; rw [decide_eq_true d2, Bool.or_true, Bool.true_or, Bool.false_or, Bool.true_or] at this; rw [Bool.true_or]; exact this)
       go_wp2
       go_round
       case rel => exact ⟨k + 1, true, by omega, by go_num, rfl, HX2⟩
       case measure => simp [intOf]; omega
      ·have d2z : ¬ (256 : Int) < x.id.id.size := by omega
       have HX2 : RowKit.Hid ((false || ((f.acl.drop (k + 1)).any (fun a => longI a.id) || f.ids.any longI)) = R) := Lib.hid (by have := HX.out; rw [decide_eq_false d1, decide_eq_false d2, Bool.false_or, Bool.false_or, Bool.false_or] at this; rw [Bool.false_or]; exact this)
       go_wp2
       go_round
       case rel => exact ⟨k + 1, false, by omega, by go_num, rfl, HX2⟩
       case measure => simp [intOf]; omega
   ·obtain rfl : k = n2 := by omega
    have hp := HP.out
    rw [List.drop_of_length_le (by rw [hn2.out]; exact Nat.le_refl _), List.any_nil] at hp
    have HR := Lib.hid hp
    clear HP hp
    go_wp2
    go_loop [3, 5] (fun b i => ∃ (k : Nat) (β : Bool), k ≤ n3 ∧ i = .int .i64 k ∧ b = .bool β ∧ RowKit.Hid ((β || ((f.ids.drop k).any longI)) = R)) (fun _ i => n3 - (intOf i).toNat)
    case atStart => exact ⟨0, _, Nat.zero_le _, rfl, rfl, HR⟩
    case round =>
     obtain ⟨k, β, hk, rfl, rfl, HP⟩ := hrel
     clear HR
     by_cases hlt : k < n3
     ·have hkl : k < f.ids.length := by rw [hn3.out]; exact hlt
      obtain ⟨x, hx⟩ : ∃ x, f.ids[k] = x := ⟨_, rfl⟩
      have hr : (f.ids.map IdD.cells)[k]? = some x.cells := by rw [List.getElem?_map, List.getElem?_eq_getElem hkl, hx]; rfl
      obtain ⟨b1, o1, nn1, q1, e1, hb1, r1⟩ := h3'.row hr
      cases e1
      have p1 := r1 0 (.string x.scheme) rfl
      have p2 := r1 1 (.string x.id) rfl
      rw [Nat.add_zero] at p1
      have hp := HP.out
      rw [List.drop_eq_getElem_cons hkl, List.any_cons, hx] at hp
      have hlg : longI x = (decide (256 < x.scheme.size) || decide (256 < x.id.size)) := rfl
      rw [hlg] at hp
      have HX := Lib.hid hp
      clear hp HP hr r1 hx hlg
      cases β with
      | true =>
       have HX2 : RowKit.Hid ((true || ((f.ids.drop (k + 1)).any longI)) = R) := Lib.hid (by have := HX.out; rw [Bool.true_or] at this ⊢; exact this)
       go_wp2
       go_round
       case rel => exact ⟨k + 1, true, by omega, by go_num, rfl, HX2⟩
       case measure => simp [intOf]; omega
      | false =>
       by_cases d1 : 256 < x.scheme.size
       ·have d1z : (256 : Int) < x.scheme.size := by omega
        have HX2 : RowKit.Hid ((true || ((f.ids.drop (k + 1)).any longI)) = R) := Lib.hid (by have := HX.out; rw [decide_eq_true d1, Bool.true_or, Bool.true_or, Bool.false_or] at this; rw [Bool.true_or]; exact this)
        go_wp2
        go_round
        case rel => exact ⟨k + 1, true, by omega, by go_num, rfl, HX2⟩
        case measure => simp [intOf]; omega
       ·have d1z : ¬ (256 : Int) < x.scheme.size := by omega
        by_cases d2 : 256 < x.id.size
        ·have d2z : (256 : Int) < x.id.size := by omega
         have HX2 : RowKit.Hid ((true || ((f.ids.drop (k + 1)).any longI)) = R) := Lib.hid (by have := HX.out; rw [decide_eq_true d2, Bool.or_true, Bool.true_or, Bool.false_or] at this; rw [Bool.true_or]; exact this)
         go_wp2
         go_round
         case rel => exact ⟨k + 1, true, by omega, by go_num, rfl, HX2⟩
         case measure => simp [intOf]; omega
        ·have d2z : ¬ (256 : Int) < x.id.size := by omega
         have HX2 : RowKit.Hid ((false || ((f.ids.drop (k + 1)).any longI)) = R) := Lib.hid (by have := HX.out; rw [decide_eq_false d1, decide_eq_false d2, Bool.false_or, Bool.false_or, Bool.false_or] at this; rw [Bool.false_or]; exact this)
         go_wp2
         go_round
         case rel => exact ⟨k + 1, false, by omega, by go_num, rfl, HX2⟩
         case measure => simp [intOf]; omega
     ·obtain rfl : k = n3 := by omega
      have hp := HP.out
      rw [List.drop_of_length_le (by rw [hn3.out]; exact Nat.le_refl _), List.any_nil] at hp
      have HR := Lib.hid hp
      clear HP hp
      go_wp2
      go_ret
      refine ⟨ret_bool ?_, hbb⟩
      have := HR.out
      rw [Bool.or_false] at this
      exact this
set_option maxHeartbeats 2000000
theorem drop_cons (s : ByteArray) (k : Nat) (h : k < s.size) : s.data.toList.drop k = s[k] :: s.data.toList.drop (k + 1) := by
 rw [List.drop_eq_getElem_cons (by simpa using h)]; rfl
theorem order_any (s t : ByteArray) (w : World) (hs : s.size ≤ 4611686018427387904) (_ht : t.size ≤ 4611686018427387904) :
  Calls Tryz.prog 117 #[.string s, .string t] w fun e w' => e = .returned (.int .i64 (Lib.compareBytes s.data.toList t.data.toList)) ∧ Below w.heap.size w w' := by
 obtain ⟨R, hR⟩ : ∃ R, Lib.compareBytes s.data.toList t.data.toList = R := ⟨_, rfl⟩
 rw [hR]
 go_enter Tryz.func117, Tryz.ntmps117
 go_wp2
 go_loopw [5] (fun i W => ∃ k : Nat, k ≤ s.size ∧ k ≤ t.size ∧ i = .int .i64 k ∧ RowKit.Hid (Lib.compareBytes (s.data.toList.drop k) (t.data.toList.drop k) = R) ∧ Below w.heap.size w W) (fun i _ => s.size - (intOf i).toNat)
 case atStart => exact ⟨0, Nat.zero_le _, Nat.zero_le _, rfl, Lib.hid hR, Below.refl _ _⟩
 case round =>
  obtain ⟨k, hk1, hk2, rfl, HR, hb⟩ := hrel
  by_cases h1 : k < s.size
  ·by_cases h2 : k < t.size
   ·have hx := HR.out
    rw [drop_cons s k h1, drop_cons t k h2] at hx
    unfold Lib.compareBytes at hx
    by_cases c1 : s[k] < t[k]
    ·rw [if_pos c1] at hx
     subst hx
     have d1 : (s[k].toNat : Int) < t[k].toNat := by have := UInt8.lt_iff_toNat_lt.1 c1; omega
     clear HR hR
     go_wp2
     go_quiet (fail)
     go_wp2
     go_ret
     exact ⟨rfl, below_drewN' hb _⟩
    ·rw [if_neg c1] at hx
     have d1 : ¬ (s[k].toNat : Int) < t[k].toNat := fun h => c1 (UInt8.lt_iff_toNat_lt.2 (by omega))
     by_cases c2 : t[k] < s[k]
     ·rw [if_pos c2] at hx
      subst hx
      have d2 : (t[k].toNat : Int) < s[k].toNat := by have := UInt8.lt_iff_toNat_lt.1 c2; omega
      clear HR hR
      go_wp2
      go_quiet (fail)
      go_wp2
      go_quiet (fail)
      go_wp2
      go_ret
      exact ⟨rfl, below_drewN' (below_drewN' hb _) _⟩
     ·rw [if_neg c2] at hx
      have d2 : ¬ (t[k].toNat : Int) < s[k].toNat := fun h => c2 (UInt8.lt_iff_toNat_lt.2 (by omega))
      have HX := Lib.hid hx
      clear HR hR hx
      go_wp2
      go_quiet (fail)
      go_wp2
      go_quiet (fail)
      go_wp2
      go_roundw
      case rel => exact ⟨k + 1, by omega, by omega, rfl, HX, below_drewN' hb _⟩
      case measure => simp [intOf]; omega
   ·obtain rfl : k = t.size := by omega
    have hx := HR.out
    rw [drop_cons s _ h1, List.drop_of_length_le (l := t.data.toList) (by simp)] at hx
    unfold Lib.compareBytes at hx
    subst hx
    clear HR hR
    go_wp2
    go_ret
    exact ⟨rfl, hb⟩
  ·obtain rfl : k = s.size := by omega
   have hx := HR.out
   by_cases h2 : s.size < t.size
   ·rw [drop_cons t _ h2, List.drop_of_length_le (l := s.data.toList) (by simp)] at hx
    unfold Lib.compareBytes at hx
    subst hx
    clear HR hR
    go_wp2
    go_ret
    exact ⟨rfl, hb⟩
   ·rw [List.drop_of_length_le (l := t.data.toList) (by simp; omega), List.drop_of_length_le (l := s.data.toList) (by simp)] at hx
    unfold Lib.compareBytes at hx
    subst hx
    have h3 : t.size = s.size := by omega
    clear HR hR
    go_wp2
    go_ret
    exact ⟨rfl, hb⟩
def Drawn (w W : World) : Prop := ∃ m, W = w.drewN m
theorem Drawn.refl (w : World) : Drawn w w := ⟨0, rfl⟩
theorem Drawn.drewN {w W : World} (h : Drawn w W) (q : Nat) : Drawn w (W.drewN q) := by
 obtain ⟨m, rfl⟩ := h; exact ⟨m + q, World.drewN_drewN ..⟩
theorem Drawn.below {w W : World} (h : Drawn w W) : Below w.heap.size w W := by
 obtain ⟨m, rfl⟩ := h; exact below_drewN' (Below.refl _ _) _
theorem order_q (s t : ByteArray) (w : World) (hs : s.size ≤ 4611686018427387904) (_ht : t.size ≤ 4611686018427387904) :
  Calls Tryz.prog 117 #[.string s, .string t] w fun e w' => e = .returned (.int .i64 (Lib.compareBytes s.data.toList t.data.toList)) ∧ Drawn w w' := by
 obtain ⟨R, hR⟩ : ∃ R, Lib.compareBytes s.data.toList t.data.toList = R := ⟨_, rfl⟩
 rw [hR]
 go_enter Tryz.func117, Tryz.ntmps117
 go_wp2
 go_loopw [5] (fun i W => ∃ k : Nat, k ≤ s.size ∧ k ≤ t.size ∧ i = .int .i64 k ∧ RowKit.Hid (Lib.compareBytes (s.data.toList.drop k) (t.data.toList.drop k) = R) ∧ Drawn w W) (fun i _ => s.size - (intOf i).toNat)
 case atStart => exact ⟨0, Nat.zero_le _, Nat.zero_le _, rfl, Lib.hid hR, Drawn.refl _⟩
 case round =>
  obtain ⟨k, hk1, hk2, rfl, HR, hb⟩ := hrel
  by_cases h1 : k < s.size
  ·by_cases h2 : k < t.size
   ·have hx := HR.out
    rw [drop_cons s k h1, drop_cons t k h2] at hx
    unfold Lib.compareBytes at hx
    by_cases c1 : s[k] < t[k]
    ·rw [if_pos c1] at hx
     subst hx
     have d1 : (s[k].toNat : Int) < t[k].toNat := by have := UInt8.lt_iff_toNat_lt.1 c1; omega
     clear HR hR
     go_wp2
     go_quiet (fail)
     go_wp2
     go_ret
     exact ⟨rfl, hb.drewN _⟩
    ·rw [if_neg c1] at hx
     have d1 : ¬ (s[k].toNat : Int) < t[k].toNat := fun h => c1 (UInt8.lt_iff_toNat_lt.2 (by omega))
     by_cases c2 : t[k] < s[k]
     ·rw [if_pos c2] at hx
      subst hx
      have d2 : (t[k].toNat : Int) < s[k].toNat := by have := UInt8.lt_iff_toNat_lt.1 c2; omega
      clear HR hR
      go_wp2
      go_quiet (fail)
      go_wp2
      go_quiet (fail)
      go_wp2
      go_ret
      exact ⟨rfl, (hb.drewN _).drewN _⟩
     ·rw [if_neg c2] at hx
      have d2 : ¬ (t[k].toNat : Int) < s[k].toNat := fun h => c2 (UInt8.lt_iff_toNat_lt.2 (by omega))
      have HX := Lib.hid hx
      clear HR hR hx
      go_wp2
      go_quiet (fail)
      go_wp2
      go_quiet (fail)
      go_wp2
      go_roundw
      case rel => exact ⟨k + 1, by omega, by omega, rfl, HX, hb.drewN _⟩
      case measure => simp [intOf]; omega
   ·obtain rfl : k = t.size := by omega
    have hx := HR.out
    rw [drop_cons s _ h1, List.drop_of_length_le (l := t.data.toList) (by simp)] at hx
    unfold Lib.compareBytes at hx
    subst hx
    clear HR hR
    go_wp2
    go_ret
    exact ⟨rfl, hb⟩
  ·obtain rfl : k = s.size := by omega
   have hx := HR.out
   by_cases h2 : s.size < t.size
   ·rw [drop_cons t _ h2, List.drop_of_length_le (l := s.data.toList) (by simp)] at hx
    unfold Lib.compareBytes at hx
    subst hx
    clear HR hR
    go_wp2
    go_ret
    exact ⟨rfl, hb⟩
   ·rw [List.drop_of_length_le (l := t.data.toList) (by simp; omega), List.drop_of_length_le (l := s.data.toList) (by simp)] at hx
    unfold Lib.compareBytes at hx
    subst hx
    have h3 : t.size = s.size := by omega
    clear HR hR
    go_wp2
    go_ret
    exact ⟨rfl, hb⟩
def badA (a : AclD) : Bool := !u8D a.id.scheme || !u8D a.id.id
def descD : List ByteArray → Bool
 | a :: b :: t => decide (0 ≤ Lib.compareBytes a.data.toList b.data.toList) || descD (b :: t)
 | _ => false
theorem descD_step (l : List ByteArray) (k : Nat) (x y : ByteArray) (hx : l[k]? = some x) (hy : l[k + 1]? = some y) : descD (l.drop k) = (decide (0 ≤ Lib.compareBytes x.data.toList y.data.toList) || descD (l.drop (k + 1))) := by
 obtain ⟨h1, rfl⟩ := List.getElem?_eq_some_iff.1 hx
 obtain ⟨h2, rfl⟩ := List.getElem?_eq_some_iff.1 hy
 rw [List.drop_eq_getElem_cons h1, List.drop_eq_getElem_cons h2]
 exact descD.eq_1 _ _ _
theorem descD_end (l : List ByteArray) (k : Nat) (h : l.length ≤ k + 1) : descD (l.drop k) = false := by
 have hl : (l.drop k).length ≤ 1 := by simp; omega
 match hd : l.drop k with
 | [] => rfl
 | [a] => rfl
 | a :: b :: t => rw [hd] at hl; simp at hl
def tail13 (f : TxnF) (zxid : Int) : Bool :=
 if f.type = 120 then !f.has || (decide (f.count < -1) || decide (f.bytes < -1))
 else if f.type = -10 then f.sid != 0 || !sessD zxid f.timeout f.ids
 else if f.type = -1 then decide (0 ≤ f.code) else false
def odd13 (f : TxnF) (zxid : Int) : Bool := f.acl.any badA || (descD f.paths || tail13 f zxid)
abbrev ZC140 (x0 : TxnF) (x1 : Option Addr) (x2 x3 : Nat) (x4 : Option Addr) (x5 x6 : Nat) (x7 : Option Addr) (x8 x9 : Nat) (x10 : Option Addr) (x11 x12 : Nat) (x13 : Option Addr) (x14 x15 : Nat) : Obj := (.cells #[.int .i32 x0.type, .string x0.path, .slice x1 x2 x3, .slice x4 x5 x6, .int .i64 x0.owner, .int .i32 x0.version, .int .i32 x0.creates, .bool x0.has, .int .i64 x0.count, .int .i64 x0.bytes, .int .i64 x0.sid, .int .i32 x0.timeout, .slice x7 x8 x9, .slice x10 x11 x12, .int .i32 x0.code, .slice x13 x14 x15] 33)
theorem refodd_any (f : TxnF) (hf : f.Ok) (n : Nat) (zxid : Int) (A : Nat → Prop) (cs : List Value) (w : World) (h : TxnA A w f n cs) (hA : ∀ b, A b → b < w.heap.size) :
  Calls Tryz.prog 75 #[.agg cs.toArray, .int .i64 zxid] w fun e w' => e = .returned (.bool (odd13 f zxid)) ∧ Below w.heap.size w w' := by
 obtain ⟨v1, v2, v3, v4, v5, rfl, h1, h2, h3, h4, rows, h5, hn5⟩ := h.ex
 clear h
 obtain ⟨n1, hn1⟩ : ∃ n, f.data.length = n := ⟨_, rfl⟩
 obtain ⟨n2, hn2⟩ : ∃ n, f.acl.length = n := ⟨_, rfl⟩
 obtain ⟨n3, hn3⟩ : ∃ n, f.ids.length = n := ⟨_, rfl⟩
 obtain ⟨n4, hn4⟩ : ∃ n, f.paths.length = n := ⟨_, rfl⟩
 have m1 : n1 ≤ 1048576 := by rw [← hn1]; exact hf.data
 have m2 : n2 ≤ 1048576 := by rw [← hn2]; exact hf.acl
 have m3 : n3 ≤ 1048576 := by rw [← hn3]; exact hf.ids
 have m4 : n4 ≤ 1048576 := by rw [← hn4]; exact hf.paths
 obtain ⟨s1, p1, rfl⟩ := h1.len'
 obtain ⟨s2, p2, rfl⟩ := h2.len'
 obtain ⟨s3, p3, rfl⟩ := h3.len'
 obtain ⟨s4, p4, rfl⟩ := h4.len'
 obtain ⟨s5, p5, rfl⟩ := h5.len'
 rw [List.length_map, hn1] at h1 ⊢
 rw [List.length_map, hn2] at h2 ⊢
 rw [List.length_map, hn3] at h3 ⊢
 rw [List.length_map, hn4] at h4 ⊢
 rw [hn5] at h5 ⊢
 replace hn1 := Lib.hid hn1
 replace hn2 := Lib.hid hn2
 replace hn3 := Lib.hid hn3
 replace hn4 := Lib.hid hn4
 replace hn5 := Lib.hid hn5
 have hbb : Below w.heap.size w (w.alloc (ZC140 f s1 n1 p1 s2 n2 p2 s3 n3 p3 s4 n4 p4 s5 n p5)) := (Below.refl w.heap.size w).alloc (Nat.le_refl _) _
 unfold TxnF.cells
 have X0 := st_at (heap_alloc_new w (ZC140 f s1 n1 p1 s2 n2 p2 s3 n3 p3 s4 n4 p4 s5 n p5)) (k := 0) rfl
 have X3 := st_at (heap_alloc_new w (ZC140 f s1 n1 p1 s2 n2 p2 s3 n3 p3 s4 n4 p4 s5 n p5)) (k := 3) rfl
 have X7 := st_at (heap_alloc_new w (ZC140 f s1 n1 p1 s2 n2 p2 s3 n3 p3 s4 n4 p4 s5 n p5)) (k := 7) rfl
 have X8 := st_at (heap_alloc_new w (ZC140 f s1 n1 p1 s2 n2 p2 s3 n3 p3 s4 n4 p4 s5 n p5)) (k := 8) rfl
 have X9 := st_at (heap_alloc_new w (ZC140 f s1 n1 p1 s2 n2 p2 s3 n3 p3 s4 n4 p4 s5 n p5)) (k := 9) rfl
 have X10 := st_at (heap_alloc_new w (ZC140 f s1 n1 p1 s2 n2 p2 s3 n3 p3 s4 n4 p4 s5 n p5)) (k := 10) rfl
 have X11 := st_at (heap_alloc_new w (ZC140 f s1 n1 p1 s2 n2 p2 s3 n3 p3 s4 n4 p4 s5 n p5)) (k := 11) rfl
 have X12 := st_at (heap_alloc_new w (ZC140 f s1 n1 p1 s2 n2 p2 s3 n3 p3 s4 n4 p4 s5 n p5)) (k := 12) rfl
 have X13 := st_at (heap_alloc_new w (ZC140 f s1 n1 p1 s2 n2 p2 s3 n3 p3 s4 n4 p4 s5 n p5)) (k := 13) rfl
 have X14 := st_at (heap_alloc_new w (ZC140 f s1 n1 p1 s2 n2 p2 s3 n3 p3 s4 n4 p4 s5 n p5)) (k := 14) rfl
 have h2' := h2.below hA hbb
 have h4' := h4.below hA hbb
 have hz2 := hf.acl1
 have hz4 := hf.paths1
 obtain ⟨R, hR⟩ : ∃ R, odd13 f zxid = R := ⟨_, rfl⟩
 rw [hR]
 unfold odd13 at hR
 obtain ⟨T, hT⟩ : ∃ T, tail13 f zxid = T := ⟨_, rfl⟩
 rw [hT] at hR
 have HT := Lib.hid hT
 have HR := Lib.hid hR
 clear hR hT h1 h2 h4 h5
 go_enter Tryz.func75, Tryz.ntmps75
 go_wp2
 go_loop [4, 5] (fun _ i => ∃ k : Nat, k ≤ n2 ∧ i = .int .i64 k ∧ RowKit.Hid (((f.acl.drop k).any badA || (descD f.paths || T)) = R)) (fun _ i => n2 - (intOf i).toNat)
 case atStart => exact ⟨0, Nat.zero_le _, rfl, HR⟩
 case round =>
  obtain ⟨k, hk, rfl, HP⟩ := hrel
  clear HR
  by_cases hlt : k < n2
  ·have hkl : k < f.acl.length := by rw [hn2.out]; exact hlt
   obtain ⟨x, hx⟩ : ∃ x, f.acl[k] = x := ⟨_, rfl⟩
   have hxm : x ∈ f.acl := by rw [← hx]; exact List.getElem_mem hkl
   have hr : (f.acl.map AclD.cells)[k]? = some x.cells := by rw [List.getElem?_map, List.getElem?_eq_getElem hkl, hx]; rfl
   have u1 := utf8_any x.id.scheme (w.alloc (ZC140 f s1 n1 p1 s2 n2 p2 s3 n3 p3 s4 n4 p4 s5 n p5)) (by have := (hz2 x hxm).1; omega)
   have u2 := utf8_any x.id.id (w.alloc (ZC140 f s1 n1 p1 s2 n2 p2 s3 n3 p3 s4 n4 p4 s5 n p5)) (by have := (hz2 x hxm).2; omega)
   obtain ⟨b1, o1, nn1, q1, e1, hb1, r1⟩ := h2'.row hr
   cases e1
   have p1 := r1 1 (.string x.id.scheme) rfl
   have p2 := r1 2 (.string x.id.id) rfl
   have hp := HP.out
   rw [List.drop_eq_getElem_cons hkl, List.any_cons, hx] at hp
   have hbd : badA x = (!u8D x.id.scheme || !u8D x.id.id) := rfl
   rw [hbd] at hp
   generalize u8D x.id.scheme = U1 at u1 hp
   generalize u8D x.id.id = U2 at u2 hp
   have HX := Lib.hid hp
   clear hp HP hr r1 hx hbd hxm
   cases hbad : (!U1 || !U2) with
   | true =>
    have hp := HX.out
    rw [hbad, Bool.true_or, Bool.true_or] at hp
    subst hp
    clear HX
    cases U1 <;> cases U2 <;> simp at hbad
    all_goals
     go_wp2_with (first
      | (go_at_call 116; with_reducible refine u1.mono ?_; rintro e w' ⟨rfl, rfl⟩)
      | (go_at_call 116; with_reducible refine u2.mono ?_; rintro e w' ⟨rfl, rfl⟩))
     go_ret
     exact ⟨rfl, hbb⟩
   | false =>
    have hp := HX.out
    rw [hbad, Bool.false_or] at hp
    have HX2 := Lib.hid hp
    clear HX hp
    cases U1 <;> cases U2 <;> simp at hbad
    go_wp2_with (first
     | (go_at_call 116; with_reducible refine u1.mono ?_; rintro e w' ⟨rfl, rfl⟩)
     | (go_at_call 116; with_reducible refine u2.mono ?_; rintro e w' ⟨rfl, rfl⟩))
    go_round
    case rel => exact ⟨k + 1, by omega, by go_num, HX2⟩
    case measure => simp [intOf]; omega
  ·obtain rfl : n2 = k := by omega
   have hp := HP.out
   rw [List.drop_of_length_le (by rw [hn2.out]; exact Nat.le_refl _), List.any_nil, Bool.false_or] at hp
   have HR := Lib.hid hp
   clear HP hp
   go_wp2
   go_loopw [4, 6] (fun _ i W => ∃ m k : Nat, RowKit.Hid (m = k + 1) ∧ i = .int .i64 m ∧ RowKit.Hid ((descD (f.paths.drop k) || T) = R) ∧ RowKit.Hid (Below (w.alloc (ZC140 f s1 n1 p1 s2 n2 p2 s3 n3 p3 s4 n4 p4 s5 n p5)).heap.size (w.alloc (ZC140 f s1 n1 p1 s2 n2 p2 s3 n3 p3 s4 n4 p4 s5 n p5)) W)) (fun _ i _ => n4 + 1 - (intOf i).toNat)
   case atStart => exact ⟨1, 0, Lib.hid rfl, rfl, HR, Lib.hid (Below.refl _ _)⟩
   case round =>
    obtain ⟨m, k, hmk, rfl, HP, hb0⟩ := hrel
    have hb := hb0.out
    clear HR
    have hsz : w.heap.size < wr.heap.size := by have := hb.size; simp at this; omega
    have Y0 := (hb.cell (p := ⟨w.heap.size, 0, none⟩) (by simp)).trans X0
    have Y13 := (hb.cell (p := ⟨w.heap.size, 13, none⟩) (by simp)).trans X13
    by_cases hlt : m < n4
    ·have hkl : k + 1 < f.paths.length := by rw [hn4.out, ← hmk.out]; exact hlt
     have hkl0 : k < f.paths.length := by omega
     obtain ⟨x, hx⟩ : ∃ x, f.paths[k]? = some x := ⟨_, List.getElem?_eq_getElem hkl0⟩
     obtain ⟨y, hy⟩ : ∃ y, f.paths[k + 1]? = some y := ⟨_, List.getElem?_eq_getElem hkl⟩
     have hrx : (f.paths.map strCells)[k]? = some (strCells x) := by rw [List.getElem?_map, hx]; rfl
     have hry : (f.paths.map strCells)[m]? = some (strCells y) := by rw [hmk.out, List.getElem?_map, hy]; rfl
     have hO := fun W => order_q x y W (by have := hz4 x (List.mem_of_getElem? hx); omega) (by have := hz4 y (List.mem_of_getElem? hy); omega)
     have hp := HP.out
     rw [descD_step f.paths k x y hx hy] at hp
     obtain ⟨C, hC⟩ : ∃ C, Lib.compareBytes x.data.toList y.data.toList = C := ⟨_, rfl⟩
     rw [hC] at hp
     simp only [hC] at hO
     have hkn : k < n4 := by have := hmk.out; omega
     have hw : IntKind.i64.wrap ((m : Int) - 1) = (k : Int) := by
      have := hmk.out
      rw [IntKind.wrap_i64]; omega
     obtain ⟨b1, o1, nn1, q1, e1, hb1, r1⟩ := h4'.row hrx
     obtain ⟨b2, o2, nn2, q2, e2, hb2, r2⟩ := h4'.row hry
     cases e1
     cases e2
     have r1 := range_below r1 hb (by have := hA b1 hb1; simp; omega)
     have r2 := range_below r2 hb (by have := hA b1 hb1; simp; omega)
     have p1 := r1 0 (.string x) rfl
     have p2 := r2 0 (.string y) rfl
     rw [Nat.add_zero, Nat.mul_one] at p1 p2
     have HX := Lib.hid hp
     clear hp HP r1 r2 hx hy hrx hry hC hkl hkl0
     by_cases hc : 0 ≤ C
     ·have hp := HX.out
      rw [decide_eq_true hc, Bool.true_or, Bool.true_or] at hp
      subst hp
      clear HX
      go_wp2
      go_quiet (first | (go_at_call 117; refine Calls.quiet_of (hO _)))
      go_wp2
      go_ret
      exact ⟨rfl, below_drewN' (hbb.trans (hb.mono (by simp))) _⟩
     ·have hp := HX.out
      rw [decide_eq_false hc, Bool.false_or] at hp
      have HX2 := Lib.hid hp
      clear HX hp
      go_wp2
      go_quiet (first | (go_at_call 117; refine Calls.quiet_of (hO _)))
      go_wp2
      go_roundw
      case rel => exact ⟨m + 1, k + 1, Lib.hid (by rw [hmk.out]), by go_num, HX2, Lib.hid (below_drewN' hb _)⟩
      case measure => simp [intOf]; omega
    ·have hp := HP.out
     have hmk2 := hmk.out
     rw [descD_end f.paths k (by rw [hn4.out]; omega), Bool.false_or, ← HT.out] at hp
     clear HP HT
     have hbw : Below w.heap.size w wr := hbb.trans (hb.mono (by simp))
     have Y7 := (hb.cell (p := ⟨w.heap.size, 7, none⟩) (by simp)).trans X7
     have Y8 := (hb.cell (p := ⟨w.heap.size, 8, none⟩) (by simp)).trans X8
     have Y9 := (hb.cell (p := ⟨w.heap.size, 9, none⟩) (by simp)).trans X9
     have Y10 := (hb.cell (p := ⟨w.heap.size, 10, none⟩) (by simp)).trans X10
     have Y11 := (hb.cell (p := ⟨w.heap.size, 11, none⟩) (by simp)).trans X11
     have Y12 := (hb.cell (p := ⟨w.heap.size, 12, none⟩) (by simp)).trans X12
     have Y14 := (hb.cell (p := ⟨w.heap.size, 14, none⟩) (by simp)).trans X14
     clear X0 X3 X7 X8 X9 X10 X11 X12 X13 X14 hmk2
     clear hmk
     unfold tail13 at hp
     by_cases t1 : f.type = 120
     ·rw [if_pos t1] at hp
      have t1b : (f.type == 120) = true := by rw [t1]; rfl
      obtain ⟨g1, hg1⟩ : ∃ g, f.has = g := ⟨_, rfl⟩
      rw [hg1] at hp Y7
      by_cases q1 : f.count < -1
      ·rw [decide_eq_true q1] at hp
       by_cases q2 : f.bytes < -1
       ·rw [decide_eq_true q2] at hp
        cases g1 <;> simp at hp <;> subst hp
        all_goals
         go_wp2
         go_ret
         exact ⟨rfl, hbw⟩
       ·rw [decide_eq_false q2] at hp
        cases g1 <;> simp at hp <;> subst hp
        all_goals
         go_wp2
         go_ret
         exact ⟨rfl, hbw⟩
      ·rw [decide_eq_false q1] at hp
       by_cases q2 : f.bytes < -1
       ·rw [decide_eq_true q2] at hp
        cases g1 <;> simp at hp <;> subst hp
        all_goals
         go_wp2
         go_ret
         exact ⟨rfl, hbw⟩
       ·rw [decide_eq_false q2] at hp
        cases g1 <;> simp at hp <;> subst hp
        all_goals
         go_wp2
         go_ret
         exact ⟨rfl, hbw⟩
     rw [if_neg t1] at hp
     have t1b : (f.type == 120) = false := by simpa using t1
     by_cases t2 : f.type = -10
     ·rw [if_pos t2] at hp
      have t2b : (f.type == -10) = true := by rw [t2]; rfl
      clear t1 t2
      have hbw2 : Below w.heap.size w (wr.alloc (.cells #[.int .i64 zxid, .int .i32 f.timeout, .slice s3 n3 p3] 28)) := hbw.alloc (by omega) _
      have hS := refsess_any f.ids zxid f.timeout A (.slice s3 n3 p3) (wr.alloc (.cells #[.int .i64 zxid, .int .i32 f.timeout, .slice s3 n3 p3] 28)) (h3.below hA hbw2) (fun b hb => by have := hA b hb; simp; omega) (by rw [hn3.out]; exact m3) hf.ids1
      generalize sessD zxid f.timeout f.ids = Z at hS hp
      cases hq : (f.sid != 0) with
      | true =>
       rw [hq, Bool.true_or] at hp
       subst hp
       have hq3 : ¬ f.sid = 0 := by simpa using hq
       have hq2 : (f.sid == 0) = false := by simpa using hq3
       clear hq
       go_wp2
       go_ret
       exact ⟨rfl, hbw2⟩
      | false =>
       rw [hq, Bool.false_or] at hp
       subst hp
       have hq2 : f.sid = 0 := by simpa [bne] using hq
       rw [hq2] at Y10
       clear hq
       cases Z
       all_goals
        go_wp2_with (go_at_call 118; with_reducible refine hS.mono ?_; rintro e w' ⟨rfl, hbz⟩)
        go_ret
        exact ⟨rfl, hbw2.trans (hbz.mono hbw2.size)⟩
     rw [if_neg t2] at hp
     have t2b : (f.type == -10) = false := by simpa using t2
     by_cases t3 : f.type = -1
     ·rw [if_pos t3] at hp
      have t3b : (f.type == -1) = true := by rw [t3]; rfl
      by_cases t4 : 0 ≤ f.code
      ·rw [decide_eq_true t4] at hp
       subst hp
       go_wp2
       go_ret
       exact ⟨rfl, hbw⟩
      ·rw [decide_eq_false t4] at hp
       subst hp
       go_wp2
       go_ret
       exact ⟨rfl, hbw⟩
     ·rw [if_neg t3] at hp
      have t3b : (f.type == -1) = false := by simpa using t3
      subst hp
      go_wp2
      go_ret
      exact ⟨rfl, hbw⟩
end Go.Proofs.YtfgjiidbafdndaaGreatDoor
