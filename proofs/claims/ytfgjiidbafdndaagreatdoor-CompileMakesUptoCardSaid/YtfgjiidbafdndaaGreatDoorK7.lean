/- The document's comparisons of lists at equal data: true. -/
import Derived.Test.YtfgjiidbafdndaaGreatDoorK6
import Derived.Test.YtfgjiidbafdndaaGreatDoorK4
import Derived.Test.YtfgjiidbafdndaaGreatDoorK5
namespace Go.Proofs.YtfgjiidbafdndaaGreatDoor
open Go.RowKit
set_option maxHeartbeats 2000000
set_option maxRecDepth 100000
theorem below_drewN' {B : Nat} {a w : World} (h : Below B a w) : ∀ q, Below B a (w.drewN q)
 | 0 => h
 | q + 1 => (below_drewN' h q).drew
theorem SlR.len' {A : Nat → Prop} {w : World} {sz : Nat} {v : Value} {rows : List (List Value)} (h : SlR A w sz v rows) : ∃ a c, v = .slice a rows.length c := by
 obtain ⟨⟨a, n, c, h1, h2, _⟩, _⟩ := h
 exact ⟨a, c, by rw [h1, h2]⟩
theorem acls_same (l : List AclD) (A B : Nat → Prop) (v1 v2 : Value) (w : World) (h1 : SlR A w 3 v1 (l.map AclD.cells)) (h2 : SlR B w 3 v2 (l.map AclD.cells)) (hA : ∀ b, A b → b < w.heap.size) (hB : ∀ b, B b → b < w.heap.size) (hm : l.length ≤ 1048576) :
  Calls Tryz.prog 81 #[v1, v2] w fun e w' => e = .returned (.bool true) ∧ Below w.heap.size w w' := by
 obtain ⟨n, hn⟩ : ∃ n, l.length = n := ⟨_, rfl⟩
 obtain ⟨a1, c1, rfl⟩ := h1.len'
 obtain ⟨a2, c2, rfl⟩ := h2.len'
 rw [List.length_map, hn] at h1 h2 ⊢
 rw [hn] at hm
 have HN := Lib.hid hn
 clear hn
 go_enter Tryz.func81, Tryz.ntmps81
 go_wp2
 go_loopw [5] (fun i W => ∃ k : Nat, k ≤ n ∧ i = .int .i64 k ∧ Below w.heap.size w W) (fun i _ => n - (intOf i).toNat)
 case atStart => exact ⟨0, Nat.zero_le _, rfl, Below.refl _ _⟩
 case round =>
  obtain ⟨k, hk, rfl, hb⟩ := hrel
  by_cases hlt : k < n
  ·obtain ⟨x, hx⟩ : ∃ x, l[k]? = some x := ⟨_, List.getElem?_eq_getElem (by rw [HN.out]; exact hlt)⟩
   have hr : (l.map AclD.cells)[k]? = some x.cells := by rw [List.getElem?_map, hx]; rfl
   obtain ⟨b1, o1, n1, q1, e1, hb1, r1⟩ := h1.row hr
   obtain ⟨b2, o2, n2, q2, e2, hb2, r2⟩ := h2.row hr
   cases e1
   cases e2
   have r1 := range_below r1 hb (hA b1 hb1)
   have r2 := range_below r2 hb (hB b2 hb2)
   have p0 := r1 0 (.int .i32 x.perms) rfl
   have p1 := r1 1 (.string x.id.scheme) rfl
   have p2 := r1 2 (.string x.id.id) rfl
   have s0 := r2 0 (.int .i32 x.perms) rfl
   have s1 := r2 1 (.string x.id.scheme) rfl
   have s2 := r2 2 (.string x.id.id) rfl
   rw [Nat.add_zero] at p0 s0
   have hq : ∀ w, (binOp .neq 81 (.agg #[.int .i32 x.perms, .string x.id.scheme, .string x.id.id]) (.agg #[.int .i32 x.perms, .string x.id.scheme, .string x.id.id])).run Tryz.prog w = .ok (.bool false) w := fun w => by
    have := neq_acl x x w
    rw [(eqAclD_iff x x).2 rfl] at this
    exact this
   go_wp2
   go_quiet (fail)
   go_wp2
   go_roundw
   case rel => exact ⟨k + 1, by omega, rfl, below_drewN' hb _⟩
   case measure => simp [intOf]; omega
  ·go_wp2
   go_ret
   exact ⟨rfl, hb⟩
theorem acls06_same (l : List AclD) (A B : Nat → Prop) (v1 v2 : Value) (w : World) (h1 : SlR A w 3 v1 (l.map AclD.cells)) (h2 : SlR B w 3 v2 (l.map AclD.cells)) (hA : ∀ b, A b → b < w.heap.size) (hB : ∀ b, B b → b < w.heap.size) (hm : l.length ≤ 1048576) :
  Calls Tryz.prog 82 #[v1, v2] w fun e w' => e = .returned (.bool true) ∧ Below w.heap.size w w' := by
 obtain ⟨n, hn⟩ : ∃ n, l.length = n := ⟨_, rfl⟩
 obtain ⟨a1, c1, rfl⟩ := h1.len'
 obtain ⟨a2, c2, rfl⟩ := h2.len'
 rw [List.length_map, hn] at h1 h2 ⊢
 rw [hn] at hm
 have HN := Lib.hid hn
 clear hn
 go_enter Tryz.func82, Tryz.ntmps82
 go_wp2
 go_loopw [5] (fun i W => ∃ k : Nat, k ≤ n ∧ i = .int .i64 k ∧ Below w.heap.size w W) (fun i _ => n - (intOf i).toNat)
 case atStart => exact ⟨0, Nat.zero_le _, rfl, Below.refl _ _⟩
 case round =>
  obtain ⟨k, hk, rfl, hb⟩ := hrel
  by_cases hlt : k < n
  ·obtain ⟨x, hx⟩ : ∃ x, l[k]? = some x := ⟨_, List.getElem?_eq_getElem (by rw [HN.out]; exact hlt)⟩
   have hr : (l.map AclD.cells)[k]? = some x.cells := by rw [List.getElem?_map, hx]; rfl
   obtain ⟨b1, o1, n1, q1, e1, hb1, r1⟩ := h1.row hr
   obtain ⟨b2, o2, n2, q2, e2, hb2, r2⟩ := h2.row hr
   cases e1
   cases e2
   have r1 := range_below r1 hb (hA b1 hb1)
   have r2 := range_below r2 hb (hB b2 hb2)
   have p0 := r1 0 (.int .i32 x.perms) rfl
   have p1 := r1 1 (.string x.id.scheme) rfl
   have p2 := r1 2 (.string x.id.id) rfl
   have s0 := r2 0 (.int .i32 x.perms) rfl
   have s1 := r2 1 (.string x.id.scheme) rfl
   have s2 := r2 2 (.string x.id.id) rfl
   rw [Nat.add_zero] at p0 s0
   have hq : ∀ w, (binOp .neq 81 (.agg #[.int .i32 x.perms, .string x.id.scheme, .string x.id.id]) (.agg #[.int .i32 x.perms, .string x.id.scheme, .string x.id.id])).run Tryz.prog w = .ok (.bool false) w := fun w => by
    have := neq_acl x x w
    rw [(eqAclD_iff x x).2 rfl] at this
    exact this
   go_wp2
   go_quiet (fail)
   go_wp2
   go_roundw
   case rel => exact ⟨k + 1, by omega, rfl, below_drewN' hb _⟩
   case measure => simp [intOf]; omega
  ·go_wp2
   go_ret
   exact ⟨rfl, hb⟩
abbrev ZF10 (x0 x1 : Int) (x2 : Option Addr) (x3 x4 : Nat) : Obj := (.cells #[.int .i64 x0, .int .i32 x1, .slice x2 x3 x4] 28)
theorem sess_same (l : List IdD) (sid tmo : Int) (A B : Nat → Prop) (v1 v2 : Value) (w : World) (h1 : SlR A w 2 v1 (l.map IdD.cells)) (h2 : SlR B w 2 v2 (l.map IdD.cells)) (hA : ∀ b, A b → b < w.heap.size) (hB : ∀ b, B b → b < w.heap.size) (hm : l.length ≤ 1048576) :
  Calls Tryz.prog 83 #[.agg #[.int .i64 sid, .int .i32 tmo, v1], .agg #[.int .i64 sid, .int .i32 tmo, v2]] w fun e w' => e = .returned (.bool true) ∧ Below w.heap.size w w' := by
 obtain ⟨n, hn⟩ : ∃ n, l.length = n := ⟨_, rfl⟩
 obtain ⟨a1, c1, rfl⟩ := h1.len'
 obtain ⟨a2, c2, rfl⟩ := h2.len'
 rw [List.length_map, hn] at h1 h2 ⊢
 rw [hn] at hm
 have HN := Lib.hid hn
 clear hn
 have g1 := box_at w (ZF10 sid tmo a1 n c1) (ZF10 sid tmo a2 n c2)
 have g2 := heap_alloc_new (w.alloc (ZF10 sid tmo a1 n c1)) (ZF10 sid tmo a2 n c2)
 rw [World.size_alloc] at g2
 have bb : Below w.heap.size w ((w.alloc (ZF10 sid tmo a1 n c1)).alloc (ZF10 sid tmo a2 n c2)) := ((Below.refl w.heap.size w).alloc (Nat.le_refl _) _).alloc (by simp) _
 have zz : ((w.alloc (ZF10 sid tmo a1 n c1)).alloc (ZF10 sid tmo a2 n c2)).heap.size = w.heap.size + 1 + 1 := by simp
 go_enter Tryz.func83, Tryz.ntmps83
 go_wp2
 generalize (w.alloc (ZF10 sid tmo a1 n c1)).alloc (ZF10 sid tmo a2 n c2) = W0 at *
 go_loopw [5] (fun i W => ∃ k : Nat, k ≤ n ∧ i = .int .i64 k ∧ Below W0.heap.size W0 W) (fun i _ => n - (intOf i).toNat)
 case atStart => exact ⟨0, Nat.zero_le _, rfl, Below.refl _ _⟩
 case round =>
  obtain ⟨k, hk, rfl, hb0⟩ := hrel
  have hb := bb.trans (hb0.mono (by omega))
  have t1 := st_at ((hb0.block w.heap.size (by omega)).trans g1) (k := 2) (v := .slice a1 n c1) rfl
  have t2 := st_at ((hb0.block (w.heap.size + 1) (by omega)).trans g2) (k := 2) (v := .slice a2 n c2) rfl
  by_cases hlt : k < n
  ·obtain ⟨x, hx⟩ : ∃ x, l[k]? = some x := ⟨_, List.getElem?_eq_getElem (by rw [HN.out]; exact hlt)⟩
   have hr : (l.map IdD.cells)[k]? = some x.cells := by rw [List.getElem?_map, hx]; rfl
   obtain ⟨b1, o1, n1, q1, e1, hb1, r1⟩ := h1.row hr
   obtain ⟨b2, o2, n2, q2, e2, hb2, r2⟩ := h2.row hr
   cases e1
   cases e2
   have r1 := range_below r1 hb (hA b1 hb1)
   have r2 := range_below r2 hb (hB b2 hb2)
   have p1 := r1 0 (.string x.scheme) rfl
   have p2 := r1 1 (.string x.id) rfl
   have s1 := r2 0 (.string x.scheme) rfl
   have s2 := r2 1 (.string x.id) rfl
   rw [Nat.add_zero] at p1 s1
   have hq : ∀ w, (binOp .neq 79 (.agg #[.string x.scheme, .string x.id]) (.agg #[.string x.scheme, .string x.id])).run Tryz.prog w = .ok (.bool false) w := fun w => by
    have := neq_id x x w
    rw [(eqIdD_iff x x).2 rfl] at this
    exact this
   go_wp2
   go_quiet (fail)
   go_wp2
   go_roundw
   case rel => exact ⟨k + 1, by omega, rfl, below_drewN' hb0 _⟩
   case measure => simp [intOf]; omega
  ·go_wp2
   go_ret
   exact ⟨rfl, hb⟩
set_option maxHeartbeats 4000000
def identD (x : IdD) : Bool :=
 if (x.scheme.toList == [100, 105, 103, 101, 115, 116]) = true then textL x.id.data.toList && digestL x.id.data.toList
 else if (x.scheme.toList == [105, 112]) = true then addrL x.id.data.toList
 else if (x.scheme.toList == [115, 117, 112, 101, 114]) = true then textL x.id.data.toList
 else false
def idsGo (seen : List IdD) : List IdD → Bool
 | [] => true
 | x :: t => identD x && !(seen.any fun y => eqIdD y x) && idsGo (seen ++ [x]) t
def sessD (sid tmo : Int) (l : List IdD) : Bool := decide (0 < sid ∧ 4 ≤ tmo ∧ tmo ≤ 1048576 ∧ l.length ≤ 16) && idsGo [] l
theorem refident_any (x : IdD) (w : World) (hs : x.id.size ≤ 4611686018427387904) :
  Calls Tryz.prog 199 #[.agg #[.string x.scheme, .string x.id]] w fun e w' => e = .returned (.bool (identD x)) ∧ Below w.heap.size w w' := by
 obtain ⟨R, hR⟩ : ∃ R, identD x = R := ⟨_, rfl⟩
 rw [hR]
 unfold identD at hR
 have hbb := (Below.refl w.heap.size w).alloc (Nat.le_refl _) (.cells #[.string x.scheme, .string x.id] 79)
 have hd := refdigest_any x.id (w.alloc (.cells #[.string x.scheme, .string x.id] 79)) hs
 have ha := address_any x.id (w.alloc (.cells #[.string x.scheme, .string x.id] 79)) hs
 have ht := right_any x.id (w.alloc (.cells #[.string x.scheme, .string x.id] 79)) hs
 cases c1 : (x.scheme.toList == [100, 105, 103, 101, 115, 116]) with
 | true =>
  rw [c1, if_pos rfl] at hR
  rw [hR] at hd
  clear hR ha ht
  go_enter Tryz.func199, Tryz.ntmps199
  go_wp2_with (go_at_call 224; refine hd.mono ?_; rintro e w' ⟨rfl, rfl⟩)
  go_ret
  exact ⟨rfl, hbb⟩
 | false =>
  rw [c1, if_neg (by decide)] at hR
  cases c2 : (x.scheme.toList == [105, 112]) with
  | true =>
   rw [c2, if_pos rfl] at hR
   rw [hR] at ha
   clear hR hd ht
   go_enter Tryz.func199, Tryz.ntmps199
   go_wp2_with (go_at_call 225; refine ha.mono ?_; rintro e w' ⟨⟨y, rfl⟩, rfl⟩)
   go_ret
   exact ⟨rfl, hbb⟩
  | false =>
   rw [c2, if_neg (by decide)] at hR
   cases c3 : (x.scheme.toList == [115, 117, 112, 101, 114]) with
   | true =>
    rw [c3, if_pos rfl] at hR
    rw [hR] at ht
    clear hR hd ha
    go_enter Tryz.func199, Tryz.ntmps199
    go_wp2_with (go_at_call 226; refine ht.mono ?_; rintro e w' ⟨rfl, rfl⟩)
    go_ret
    exact ⟨rfl, hbb⟩
   | false =>
    rw [c3, if_neg (by decide)] at hR
    subst hR
    clear hd ha ht
    go_enter Tryz.func199, Tryz.ntmps199
    go_wp2
    go_ret
    exact ⟨rfl, hbb⟩
theorem refids_any (l : List IdD) (A : Nat → Prop) (v : Value) (w : World) (h : SlR A w 2 v (l.map IdD.cells)) (hA : ∀ b, A b → b < w.heap.size) (hm : l.length ≤ 1048576) (hz : ∀ x ∈ l, x.scheme.size ≤ 1048576 ∧ x.id.size ≤ 1048576) :
  Calls Tryz.prog 160 #[v] w fun e w' => e = .returned (.bool (idsGo [] l)) ∧ Below w.heap.size w w' := by
 obtain ⟨R, hR⟩ : ∃ R, idsGo [] l = R := ⟨_, rfl⟩
 rw [hR]
 obtain ⟨n, hn⟩ : ∃ n, l.length = n := ⟨_, rfl⟩
 obtain ⟨a1, c1, rfl⟩ := h.len'
 rw [List.length_map, hn] at h ⊢
 rw [hn] at hm
 have HN := Lib.hid hn
 have HR := Lib.hid hR
 clear hn hR
 go_enter Tryz.func160, Tryz.ntmps160
 go_wp2
 go_loopw [2, 3, 4] (fun _ i _ W => ∃ k : Nat, k ≤ n ∧ i = .int .i64 k ∧ RowKit.Hid (idsGo (l.take k) (l.drop k) = R) ∧ Below w.heap.size w W) (fun _ i _ _ => n - (intOf i).toNat)
 case atStart => exact ⟨0, Nat.zero_le _, rfl, HR, Below.refl _ _⟩
 case round =>
  obtain ⟨k, hk, rfl, HP, hb⟩ := hrel
  clear HR
  by_cases hlt : k < n
  ·have hkl : k < l.length := by rw [HN.out]; exact hlt
   obtain ⟨x, hx⟩ : ∃ x, l[k]? = some x := ⟨_, List.getElem?_eq_getElem hkl⟩
   have hxl : l[k] = x := (List.getElem?_eq_some_iff.1 hx).2
   have hr : (l.map IdD.cells)[k]? = some x.cells := by rw [List.getElem?_map, hx]; rfl
   obtain ⟨b1, o1, n1, q1, e1, hb1, r1⟩ := h.row hr
   cases e1
   have r1 := range_below r1 hb (hA b1 hb1)
   have p1 := r1 0 (.string x.scheme) rfl
   have p2 := r1 1 (.string x.id) rfl
   rw [Nat.add_zero] at p1
   have hid := refident_any x wr (by have := (hz x (List.mem_of_getElem? hx)).2; omega)
   have hp := HP.out
   rw [List.drop_eq_getElem_cons hkl, hxl] at hp
   unfold idsGo at hp
   rw [show l.take k ++ [x] = l.take (k + 1) by rw [List.take_succ_eq_append_getElem hkl, hxl]] at hp
   clear HP
   cases hI : identD x with
   | false =>
    rw [hI, Bool.false_and, Bool.false_and] at hp
    subst hp
    rw [hI] at hid
    clear hI
    go_wp2_with (go_at_call 199; refine hid.mono ?_; rintro e w1 ⟨rfl, hb2⟩)
    go_ret
    exact ⟨rfl, hb.trans (hb2.mono hb.size)⟩
   | true =>
    rw [hI, Bool.true_and] at hp
    rw [hI] at hid
    clear hI
    have HP := Lib.hid hp
    clear hp
    go_wp2_with (go_at_call 199; refine hid.mono ?_; rintro e w1 ⟨rfl, hb2⟩)
    have hb3 := hb.trans (hb2.mono hb.size)
    clear hid hb2 p1 p2 r1
    go_loopw [2, 4] (fun _ j W => ∃ q : Nat, q ≤ k ∧ j = .int .i64 q ∧ RowKit.Hid (∀ y ∈ l.take q, eqIdD y x = false) ∧ Below w.heap.size w W) (fun _ j _ => k - (intOf j).toNat)
    case atStart => exact ⟨0, Nat.zero_le _, rfl, Lib.hid (by simp), hb3⟩
    case round =>
     obtain ⟨q, hq, rfl, HQ, hb4⟩ := hrel
     by_cases hql : q < k
     ·have hqn : q < n := by omega
      obtain ⟨y, hy⟩ : ∃ y, l[q]? = some y := ⟨_, List.getElem?_eq_getElem (by omega)⟩
      have hry : (l.map IdD.cells)[q]? = some y.cells := by rw [List.getElem?_map, hy]; rfl
      obtain ⟨b2, o2, n2, q2, e2, hb2', s1⟩ := h.row hry
      cases e2
      obtain ⟨b3, o3, n3, q3, e3, hb3', s2⟩ := h.row hr
      cases e3
      have s1 := range_below s1 hb4 (hA _ hb1)
      have s2 := range_below s2 hb4 (hA _ hb1)
      have p1 := s1 0 (.string y.scheme) rfl
      have p2 := s1 1 (.string y.id) rfl
      have p3 := s2 0 (.string x.scheme) rfl
      have p4 := s2 1 (.string x.id) rfl
      rw [Nat.add_zero] at p1 p3
      have heq : ∀ w, (binOp .eql 79 (.agg #[.string y.scheme, .string y.id]) (.agg #[.string x.scheme, .string x.id])).run Tryz.prog w = .ok (.bool (eqIdD y x)) w := fun w => eql_id y x w
      have hmem : y ∈ l.take k := List.mem_of_getElem? (i := q) (by rw [List.getElem?_take, if_pos hql]; exact hy)
      have hstep : l.take (q + 1) = l.take q ++ [y] := by
       obtain ⟨hq1, hq2⟩ := List.getElem?_eq_some_iff.1 hy
       rw [List.take_succ_eq_append_getElem hq1, hq2]
      have HS := Lib.hid hstep
      clear hstep
      cases hE : eqIdD y x with
      | true =>
       have hp := HP.out
       rw [List.any_eq_true.2 ⟨y, hmem, hE⟩, Bool.not_true, Bool.false_and] at hp
       subst hp
       rw [hE] at heq
       clear hE HP hmem
       go_wp2
       go_quiet (fail)
       go_wp2
       go_ret
       exact ⟨rfl, below_drewN' hb4 _⟩
      | false =>
       have HQ2 : RowKit.Hid (∀ z ∈ l.take (q + 1), eqIdD z x = false) := Lib.hid (by
        rw [HS.out]
        intro z hz'
        rcases List.mem_append.1 hz' with h' | h'
        ·exact HQ.out z h'
        ·simp only [List.mem_singleton] at h'; rw [h']; exact hE)
       rw [hE] at heq
       clear hE hmem
       go_wp2
       go_quiet (fail)
       go_wp2
       go_roundw
       case rel => exact ⟨q + 1, by omega, rfl, HQ2, below_drewN' hb4 _⟩
       case measure => simp [intOf]; omega
     ·obtain rfl : q = k := by omega
      have hp := HP.out
      have hany : ((l.take q).any fun y => eqIdD y x) = false := by
       rw [List.any_eq_false]
       intro y hy
       rw [HQ.out y hy]; decide
      rw [hany, Bool.not_false, Bool.true_and] at hp
      have HX := Lib.hid hp
      clear hp hany HP
      go_wp2
      go_roundw
      case rel => exact ⟨q + 1, by omega, rfl, HX, hb4⟩
      case measure => simp [intOf]; omega
  ·obtain rfl : k = n := by omega
   have hp := HP.out
   rw [List.drop_of_length_le (by rw [HN.out]; exact Nat.le_refl _)] at hp
   unfold idsGo at hp
   subst hp
   clear HP
   go_wp2
   go_ret
   exact ⟨rfl, hb⟩
end Go.Proofs.YtfgjiidbafdndaaGreatDoor
namespace Go.Proofs.YtfgjiidbafdndaaGreatDoor
open Go.RowKit Go.Lib
set_option maxHeartbeats 2000000
set_option maxRecDepth 100000
def eqQuotaD (h h' : Bool) (c c' b b' : Int) : Bool := h == h' && (c == c' && b == b')
theorem equalIn_quota (d : Nat) (h h' : Bool) (c c' b b' : Int) (w : World) : (Op.equalIn (d + 1 + 1) 25 (.agg #[.bool h, .int .i64 c, .int .i64 b]) (.agg #[.bool h', .int .i64 c', .int .i64 b'])).run Tryz.prog w = .ok (eqQuotaD h h' c c' b b') w := by
 have u4 := Tryz.underlying4
 have a4 := Tryz.isAgg4
 have z4 := Tryz.sizeOf4
 have u2 := Tryz.underlying2
 have a2 := Tryz.isAgg2
 have z2 := Tryz.sizeOf2
 have hS : Tryz.prog.underlying 25 = some (.struct (Tryz.prog.fieldsOf 25)) := by kernel_rfl
 have hp : Tryz.prog.stoodInHeld 25 = false := by kernel_rfl
 rw [run_equalIn_agg w _ 25 _ _ hS hp]
 simp only [Program.fieldsOf, Tryz.underlying25]
 go_simp
 unfold eqQuotaD
 repeat' split
 all_goals simp_all
theorem eql_quota (h h' : Bool) (c c' b b' : Int) (w : World) : (binOp .eql 25 (.agg #[.bool h, .int .i64 c, .int .i64 b]) (.agg #[.bool h', .int .i64 c', .int .i64 b'])).run Tryz.prog w = .ok (.bool (eqQuotaD h h' c c' b b')) w := by
 rw [run_eql_struct, show (10000 : Nat) = 9998 + 1 + 1 from rfl, equalIn_quota]; rfl
theorem neq_quota (h h' : Bool) (c c' b b' : Int) (w : World) : (binOp .neq 25 (.agg #[.bool h, .int .i64 c, .int .i64 b]) (.agg #[.bool h', .int .i64 c', .int .i64 b'])).run Tryz.prog w = .ok (.bool (!eqQuotaD h h' c c' b b')) w := by
 rw [run_neq_struct, show (10000 : Nat) = 9998 + 1 + 1 from rfl, equalIn_quota]; rfl
structure StatD where
 czxid : Int
 mzxid : Int
 ctime : Int
 mtime : Int
 version : Int
 cversion : Int
 aversion : Int
 owner : Int
 dlen : Int
 nkids : Int
 pzxid : Int
def StatD.cells (x : StatD) : List Value := [.int .i64 x.czxid, .int .i64 x.mzxid, .int .i64 x.ctime, .int .i64 x.mtime, .int .i32 x.version, .int .i32 x.cversion, .int .i32 x.aversion, .int .i64 x.owner, .int .i32 x.dlen, .int .i32 x.nkids, .int .i64 x.pzxid]
def eqStatD (x y : StatD) : Bool := x.czxid == y.czxid && (x.mzxid == y.mzxid && (x.ctime == y.ctime && (x.mtime == y.mtime && (x.version == y.version && (x.cversion == y.cversion && (x.aversion == y.aversion && (x.owner == y.owner && (x.dlen == y.dlen && (x.nkids == y.nkids && x.pzxid == y.pzxid)))))))))
def StatD.zero : StatD := ⟨0, 0, 0, 0, 0, 0, 0, 0, 0, 0, 0⟩
theorem equalIn_stat (d : Nat) (x y : StatD) (w : World) : (Op.equalIn (d + 1 + 1) 37 (.agg x.cells.toArray) (.agg y.cells.toArray)).run Tryz.prog w = .ok (eqStatD x y) w := by
 have u21 := Tryz.underlying21
 have a21 := Tryz.isAgg21
 have z21 := Tryz.sizeOf21
 have u2 := Tryz.underlying2
 have a2 := Tryz.isAgg2
 have z2 := Tryz.sizeOf2
 have hS : Tryz.prog.underlying 37 = some (.struct (Tryz.prog.fieldsOf 37)) := by kernel_rfl
 have hp : Tryz.prog.stoodInHeld 37 = false := by kernel_rfl
 unfold StatD.cells
 rw [run_equalIn_agg w _ 37 _ _ hS hp]
 simp only [Program.fieldsOf, Tryz.underlying37]
 go_simp
 unfold eqStatD
 repeat' split
 all_goals simp_all
theorem eql_stat (x y : StatD) (w : World) : (binOp .eql 37 (.agg x.cells.toArray) (.agg y.cells.toArray)).run Tryz.prog w = .ok (.bool (eqStatD x y)) w := by
 rw [run_eql_struct, show (10000 : Nat) = 9998 + 1 + 1 from rfl, equalIn_stat]; rfl
theorem neq_stat (x y : StatD) (w : World) : (binOp .neq 37 (.agg x.cells.toArray) (.agg y.cells.toArray)).run Tryz.prog w = .ok (.bool (!eqStatD x y)) w := by
 rw [run_neq_struct, show (10000 : Nat) = 9998 + 1 + 1 from rfl, equalIn_stat]; rfl
theorem eqStatD_self (x : StatD) : eqStatD x x = true := by simp [eqStatD]
theorem eqQuotaD_self (h : Bool) (c b : Int) : eqQuotaD h h c c b b = true := by simp [eqQuotaD]
end Go.Proofs.YtfgjiidbafdndaaGreatDoor
