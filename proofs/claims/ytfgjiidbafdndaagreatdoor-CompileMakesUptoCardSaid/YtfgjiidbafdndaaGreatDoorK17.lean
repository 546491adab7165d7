/- Identities of a result, in the document's words. -/
import Derived.Test.YtfgjiidbafdndaaGreatDoorK16
import Derived.Test.YtfgjiidbafdndaaGreatDoorK11
namespace Go.Proofs.YtfgjiidbafdndaaGreatDoor
open Go.RowKit
set_option maxHeartbeats 4000000
set_option maxRecDepth 100000
def oddI (x : IdD) : Bool := !u8D x.scheme || !u8D x.id
def bigIds (l : List IdD) : Bool := decide (16 < l.length) || l.any longI
def oddIds (l : List IdD) : Bool := l.any oddI
theorem ids12_any (l : List IdD) (A : Nat → Prop) (v : Value) (w : World) (h : SlR A w 2 v (l.map IdD.cells)) (hm : l.length ≤ 1048576) (hz : ∀ x ∈ l, x.scheme.size ≤ 1048576 ∧ x.id.size ≤ 1048576) :
  Calls Tryz.prog 120 #[v] w fun e w' => e = .returned (.tuple #[.bool (bigIds l), .bool (oddIds l)]) ∧ w' = w := by
 obtain ⟨R1, hR1⟩ : ∃ R, bigIds l = R := ⟨_, rfl⟩
 obtain ⟨R2, hR2⟩ : ∃ R, oddIds l = R := ⟨_, rfl⟩
 rw [hR1, hR2]
 unfold bigIds at hR1
 unfold oddIds at hR2
 obtain ⟨n, hn⟩ : ∃ n, l.length = n := ⟨_, rfl⟩
 obtain ⟨a1, c1, rfl⟩ := h.len'
 rw [List.length_map, hn] at h ⊢
 rw [hn] at hm hR1
 have HN := Lib.hid hn
 have hc0 : (16 : Int) < n ∧ RowKit.Hid ((true || l.any longI) = R1) ∨ ¬ (16 : Int) < n ∧ RowKit.Hid ((false || l.any longI) = R1) := by
  by_cases g : 16 < n
  ·rw [decide_eq_true g] at hR1; exact .inl ⟨by omega, Lib.hid hR1⟩
  ·rw [decide_eq_false g] at hR1; exact .inr ⟨by omega, Lib.hid hR1⟩
 have HR2 : RowKit.Hid ((false || l.any oddI) = R2) := Lib.hid hR2
 clear hn hR1 hR2
 rcases hc0 with ⟨g, HR1⟩ | ⟨g, HR1⟩
 all_goals
  go_enter Tryz.func120, Tryz.ntmps120
  go_wp2
  go_loop [4, 5, 6] (fun b o i => ∃ (k : Nat) (β γ : Bool), k ≤ n ∧ i = .int .i64 k ∧ b = .bool β ∧ o = .bool γ ∧ RowKit.Hid ((β || (l.drop k).any longI) = R1) ∧ RowKit.Hid ((γ || (l.drop k).any oddI) = R2)) (fun _ _ i => n - (intOf i).toNat)
  case atStart => exact ⟨0, _, _, Nat.zero_le _, rfl, rfl, rfl, HR1, HR2⟩
  case round =>
   obtain ⟨k, β, γ, hk, rfl, rfl, rfl, HP1, HP2⟩ := hrel
   clear HR1 HR2
   by_cases hlt : k < n
   ·have hkl : k < l.length := by rw [HN.out]; exact hlt
    obtain ⟨x, hx⟩ : ∃ x, l[k] = x := ⟨_, rfl⟩
    have hxm : x ∈ l := by rw [← hx]; exact List.getElem_mem hkl
    have hr : (l.map IdD.cells)[k]? = some x.cells := by rw [List.getElem?_map, List.getElem?_eq_getElem hkl, hx]; rfl
    have u1 := utf8_any x.scheme w (by have := (hz x hxm).1; omega)
    have u2 := utf8_any x.id w (by have := (hz x hxm).2; omega)
    obtain ⟨b1, o1, nn1, q1, e1, hb1, r1⟩ := h.row hr
    cases e1
    have p1 := r1 0 (.string x.scheme) rfl
    have p2 := r1 1 (.string x.id) rfl
    rw [Nat.add_zero] at p1
    have hp1 := HP1.out
    rw [List.drop_eq_getElem_cons hkl, List.any_cons, hx] at hp1
    have hp2 := HP2.out
    rw [List.drop_eq_getElem_cons hkl, List.any_cons, hx] at hp2
    have hlg : longI x = (decide (256 < x.scheme.size) || decide (256 < x.id.size)) := rfl
    have hod : oddI x = (!u8D x.scheme || !u8D x.id) := rfl
    rw [hlg] at hp1
    rw [hod] at hp2
    generalize u8D x.scheme = U1 at u1 hp2
    generalize u8D x.id = U2 at u2 hp2
    obtain ⟨z1, hz1⟩ : ∃ z, x.scheme.size = z := ⟨_, rfl⟩
    obtain ⟨z2, hz2⟩ : ∃ z, x.id.size = z := ⟨_, rfl⟩
    rw [hz1, hz2] at hp1
    have hc1 : (β = true ∧ RowKit.Hid ((true || (l.drop (k + 1)).any longI) = R1)) ∨ (β = false ∧ (256 : Int) < x.scheme.size ∧ RowKit.Hid ((true || (l.drop (k + 1)).any longI) = R1)) ∨
      (β = false ∧ ¬ (256 : Int) < x.scheme.size ∧ (256 : Int) < x.id.size ∧ RowKit.Hid ((true || (l.drop (k + 1)).any longI) = R1)) ∨
      (β = false ∧ ¬ (256 : Int) < x.scheme.size ∧ ¬ (256 : Int) < x.id.size ∧ RowKit.Hid ((false || (l.drop (k + 1)).any longI) = R1)) := by
     rw [hz1, hz2]
     cases β with
     | true => exact .inl ⟨rfl, Lib.hid (by rw [Bool.true_or] at hp1 ⊢; exact hp1)⟩
     | false =>
      by_cases d1 : 256 < z1
      ·rw [decide_eq_true d1] at hp1; exact .inr (.inl ⟨rfl, by omega, Lib.hid (by simpa using hp1)⟩)
      ·rw [decide_eq_false d1] at hp1
       by_cases d2 : 256 < z2
       ·rw [decide_eq_true d2] at hp1; exact .inr (.inr (.inl ⟨rfl, by omega, by omega, Lib.hid (by simpa using hp1)⟩))
       ·rw [decide_eq_false d2] at hp1; exact .inr (.inr (.inr ⟨rfl, by omega, by omega, Lib.hid hp1⟩))
    have hc2 : (γ = true ∧ RowKit.Hid ((true || (l.drop (k + 1)).any oddI) = R2)) ∨ (γ = false ∧ U1 = false ∧ RowKit.Hid ((true || (l.drop (k + 1)).any oddI) = R2)) ∨
      (γ = false ∧ U1 = true ∧ U2 = false ∧ RowKit.Hid ((true || (l.drop (k + 1)).any oddI) = R2)) ∨ (γ = false ∧ U1 = true ∧ U2 = true ∧ RowKit.Hid ((false || (l.drop (k + 1)).any oddI) = R2)) := by
     cases γ with
     | true => exact .inl ⟨rfl, Lib.hid (by rw [Bool.true_or] at hp2 ⊢; exact hp2)⟩
     | false =>
      cases U1 with
      | false => exact .inr (.inl ⟨rfl, rfl, Lib.hid (by simpa using hp2)⟩)
      | true =>
       cases U2 with
       | false => exact .inr (.inr (.inl ⟨rfl, rfl, rfl, Lib.hid (by simpa using hp2)⟩))
       | true => exact .inr (.inr (.inr ⟨rfl, rfl, rfl, Lib.hid (by simpa using hp2)⟩))
    clear hp1 hp2 HP1 HP2 hlg hod hr r1 hx hxm hz1 hz2
    rcases hc1 with ⟨rfl, H1⟩ | ⟨rfl, d1, H1⟩ | ⟨rfl, d1, d2, H1⟩ | ⟨rfl, d1, d2, H1⟩
    all_goals
     rcases hc2 with ⟨rfl, H2⟩ | ⟨rfl, rfl, H2⟩ | ⟨rfl, rfl, rfl, H2⟩ | ⟨rfl, rfl, rfl, H2⟩
     all_goals
      go_wp2_with (first
       | (go_at_call 116; with_reducible refine u1.mono ?_; rintro e w' ⟨rfl, rfl⟩)
       | (go_at_call 116; with_reducible refine u2.mono ?_; rintro e w' ⟨rfl, rfl⟩))
      go_round
      case rel => exact ⟨k + 1, _, _, by omega, by go_num, rfl, rfl, H1, H2⟩
      case measure => simp [intOf]; omega
   ·obtain rfl : n = k := by omega
    have hp1 := HP1.out
    have hp2 := HP2.out
    rw [List.drop_of_length_le (by rw [HN.out]; exact Nat.le_refl _), List.any_nil, Bool.or_false] at hp1 hp2
    subst hp1
    subst hp2
    clear HP1 HP2
    go_wp2
    go_ret2
    exact ⟨rfl, rfl⟩
set_option maxHeartbeats 8000000
structure ResA (A : Nat → Prop) (w : World) (f : ResF) (n : Nat) (cs : List Value) : Prop where
 ex : ∃ vd va vi vp vs, cs = f.cells vd va vi vp vs ∧ SlR A w 1 vd (f.data.map byteCells) ∧ SlR A w 3 va (f.acl.map AclD.cells) ∧ SlR A w 1 vi (f.names.map strCells) ∧
  SlR A w 2 vp (f.ids.map IdD.cells) ∧ ∃ rows, SlR A w 22 vs rows ∧ rows.length = n
theorem RessR.len' {A : Nat → Prop} {w : World} : ∀ {ts : List ResD} {rows : List (List Value)}, RessR A w ts rows → rows.length = ts.length
 | [], rows, h => by rw [RessR] at h; simp [h]
 | t :: ts, rows, h => by
  rw [RessR] at h
  obtain ⟨r, rs, rfl, h1, h2⟩ := h
  simp [h2.len']
theorem ResR.own {A : Nat → Prop} {w : World} {f : ResF} {subs : List ResD} {cs : List Value} (h : ResR A w (.mk f subs) cs) : ResA A w f subs.length cs := by
 rw [ResR] at h
 obtain ⟨vd, va, vi, vp, vs, rows, h0, h1, h2, h3, h4, h5, h6⟩ := h
 exact ⟨vd, va, vi, vp, vs, h0, h1, h2, h3, h4, rows, h5, h6.len'⟩
theorem ResA.below {A : Nat → Prop} {w W : World} {f : ResF} {n : Nat} {cs : List Value} (h : ResA A w f n cs) (hA : ∀ b, A b → b < w.heap.size) (hb : Below w.heap.size w W) : ResA A W f n cs := by
 obtain ⟨vd, va, vi, vp, vs, h0, h1, h2, h3, h4, rows, h5, h6⟩ := h.ex
 exact ⟨vd, va, vi, vp, vs, h0, h1.below hA hb, h2.below hA hb, h3.below hA hb, h4.below hA hb, rows, h5.below hA hb, h6⟩
theorem ResA.len {A : Nat → Prop} {w : World} {f : ResF} {n : Nat} {cs : List Value} (h : ResA A w f n cs) : cs.length = 22 := by
 obtain ⟨vd, va, vi, vp, vs, h0, _⟩ := h.ex
 rw [h0]; rfl
def b12D (z n1 n2 n3 : Nat) : Bool := decide (4096 < z) || (decide (1048575 < n1) || (decide (16 < n2) || decide (1048576 < n3)))
def longN (x : ByteArray) : Bool := decide (4096 < x.size)
def great12 (f : ResF) : Bool := b12D f.path.size f.data.length f.acl.length f.names.length || (f.names.any longN || (f.acl.any (fun a => longI a.id) || bigIds f.ids))
abbrev ZC190 (x0 : ResF) (x1 : Option Addr) (x2 x3 : Nat) (x4 : Option Addr) (x5 x6 : Nat) (x7 : Option Addr) (x8 x9 : Nat) (x10 : Option Addr) (x11 x12 : Nat) (x13 : Option Addr) (x14 x15 : Nat) : Obj := (.cells #[.int .i32 x0.type, .int .i32 x0.code, .string x0.path, .int .i64 x0.czxid, .int .i64 x0.mzxid, .int .i64 x0.ctime, .int .i64 x0.mtime, .int .i32 x0.version, .int .i32 x0.cversion, .int .i32 x0.aversion, .int .i64 x0.owner, .int .i32 x0.dlen, .int .i32 x0.nkids, .int .i64 x0.pzxid, .slice x1 x2 x3, .slice x4 x5 x6, .slice x7 x8 x9, .int .i32 x0.count, .int .i64 x0.sid, .int .i32 x0.timeout, .slice x10 x11 x12, .slice x13 x14 x15] 40)
theorem refgreat12_any (f : ResF) (hf : f.Ok) (n : Nat) (A : Nat → Prop) (cs : List Value) (w : World) (h : ResA A w f n cs) (hA : ∀ b, A b → b < w.heap.size) :
  Calls Tryz.prog 79 #[.agg cs.toArray] w fun e w' => e = .returned (.bool (great12 f)) ∧ Below w.heap.size w w' := by
 obtain ⟨v1, v2, v3, v4, v5, rfl, h1, h2, h3, h4, rows, h5, hn5⟩ := h.ex
 clear h
 obtain ⟨n1, hn1⟩ : ∃ n, f.data.length = n := ⟨_, rfl⟩
 obtain ⟨n2, hn2⟩ : ∃ n, f.acl.length = n := ⟨_, rfl⟩
 obtain ⟨n3, hn3⟩ : ∃ n, f.names.length = n := ⟨_, rfl⟩
 obtain ⟨n4, hn4⟩ : ∃ n, f.ids.length = n := ⟨_, rfl⟩
 have m1 : n1 ≤ 1048576 := by rw [← hn1]; exact hf.data
 have m2 : n2 ≤ 1048576 := by rw [← hn2]; exact hf.acl
 have m3 : n3 ≤ 1048576 := by rw [← hn3]; exact hf.names
 have m4 : n4 ≤ 1048576 := by rw [← hn4]; exact hf.ids
 obtain ⟨s1, p1, rfl⟩ := h1.len'
 obtain ⟨s2, p2, rfl⟩ := h2.len'
 obtain ⟨s3, p3, rfl⟩ := h3.len'
 obtain ⟨s4, p4, rfl⟩ := h4.len'
 obtain ⟨s5, p5, rfl⟩ := h5.len'
 rw [List.length_map, hn1] at h1 ⊢
 rw [List.length_map, hn2] at h2 ⊢
 rw [List.length_map, hn3] at h3 ⊢
 rw [List.length_map, hn4] at h4 ⊢
 rw [hn5] at h5 ⊢
 replace hn1 := Lib.hid hn1
 replace hn2 := Lib.hid hn2
 replace hn3 := Lib.hid hn3
 replace hn4 := Lib.hid hn4
 replace hn5 := Lib.hid hn5
 have hbb : Below w.heap.size w (w.alloc (ZC190 f s1 n1 p1 s2 n2 p2 s3 n3 p3 s4 n4 p4 s5 n p5)) := (Below.refl w.heap.size w).alloc (Nat.le_refl _) _
 unfold ResF.cells
 have X3 : (w.alloc (ZC190 f s1 n1 p1 s2 n2 p2 s3 n3 p3 s4 n4 p4 s5 n p5)).cell? ⟨w.heap.size, 16, none⟩ = some (.slice s3 n3 p3) := st_at (heap_alloc_new w (ZC190 f s1 n1 p1 s2 n2 p2 s3 n3 p3 s4 n4 p4 s5 n p5)) rfl
 have X2 : (w.alloc (ZC190 f s1 n1 p1 s2 n2 p2 s3 n3 p3 s4 n4 p4 s5 n p5)).cell? ⟨w.heap.size, 15, none⟩ = some (.slice s2 n2 p2) := st_at (heap_alloc_new w (ZC190 f s1 n1 p1 s2 n2 p2 s3 n3 p3 s4 n4 p4 s5 n p5)) rfl
 have X4 : (w.alloc (ZC190 f s1 n1 p1 s2 n2 p2 s3 n3 p3 s4 n4 p4 s5 n p5)).cell? ⟨w.heap.size, 20, none⟩ = some (.slice s4 n4 p4) := st_at (heap_alloc_new w (ZC190 f s1 n1 p1 s2 n2 p2 s3 n3 p3 s4 n4 p4 s5 n p5)) rfl
 have h3' := h3.below hA hbb
 have h2' := h2.below hA hbb
 have hI := ids12_any f.ids A (.slice s4 n4 p4) (w.alloc (ZC190 f s1 n1 p1 s2 n2 p2 s3 n3 p3 s4 n4 p4 s5 n p5)) (h4.below hA hbb) (by rw [hn4.out]; exact m4) hf.ids1
 obtain ⟨R, hR⟩ : ∃ R, great12 f = R := ⟨_, rfl⟩
 rw [hR]
 unfold great12 at hR
 rw [hn1.out, hn2.out, hn3.out] at hR
 generalize bigIds f.ids = Q at hR hI
 generalize oddIds f.ids = Q' at hI
 clear h1 h2 h3 h4 h5
 have hcase : ((4096 : Int) < f.path.size ∨ (¬ (4096 : Int) < f.path.size ∧ (1048575 : Int) < n1) ∨ (¬ (4096 : Int) < f.path.size ∧ ¬ (1048575 : Int) < n1 ∧ (16 : Int) < n2)) ∧ RowKit.Hid ((true || (f.names.any longN || (f.acl.any (fun a => longI a.id) || Q))) = R) ∨
   (¬ (4096 : Int) < f.path.size ∧ ¬ (1048575 : Int) < n1 ∧ ¬ (16 : Int) < n2 ∧ ¬ (1048576 : Int) < n3) ∧ RowKit.Hid ((false || (f.names.any longN || (f.acl.any (fun a => longI a.id) || Q))) = R) := by
  by_cases g : b12D f.path.size n1 n2 n3 = true
  ·rw [g] at hR
   unfold b12D at g
   simp only [Bool.or_eq_true, decide_eq_true_eq] at g
   exact .inl ⟨by omega, Lib.hid hR⟩
  ·have g' : b12D f.path.size n1 n2 n3 = false := by simpa using g
   rw [g'] at hR
   unfold b12D at g'
   simp only [Bool.or_eq_false_iff, decide_eq_false_iff_not] at g'
   exact .inr ⟨by omega, Lib.hid hR⟩
 clear hR
 rcases hcase with ⟨g1 | ⟨g1, g2⟩ | ⟨g1, g2, g3⟩, HR⟩ | ⟨⟨g1, g2, g3, g4⟩, HR⟩
 all_goals
  go_enter Tryz.func79, Tryz.ntmps79
  go_wp2
  go_loop [3, 4] (fun b i => ∃ (k : Nat) (β : Bool), k ≤ n3 ∧ i = .int .i64 k ∧ b = .bool β ∧ RowKit.Hid ((β || ((f.names.drop k).any longN || (f.acl.any (fun a => longI a.id) || Q))) = R)) (fun _ i => n3 - (intOf i).toNat)
  case atStart => exact ⟨0, _, Nat.zero_le _, rfl, rfl, HR⟩
  case round =>
   obtain ⟨k, β, hk, rfl, rfl, HP⟩ := hrel
   clear HR
   by_cases hlt : k < n3
   ·have hkl : k < f.names.length := by rw [hn3.out]; exact hlt
    obtain ⟨x, hx⟩ : ∃ x, f.names[k] = x := ⟨_, rfl⟩
    have hr : (f.names.map strCells)[k]? = some (strCells x) := by rw [List.getElem?_map, List.getElem?_eq_getElem hkl, hx]; rfl
    obtain ⟨b1, o1, nn1, q1, e1, hb1, r1⟩ := h3'.row hr
    cases e1
    have c0 := r1 0 (.string x) rfl
    rw [Nat.add_zero, Nat.mul_one] at c0
    have hp := HP.out
    rw [List.drop_eq_getElem_cons hkl, List.any_cons, hx] at hp
    have hc1 : (β = true ∧ RowKit.Hid ((true || ((f.names.drop (k + 1)).any longN || (f.acl.any (fun a => longI a.id) || Q))) = R)) ∨ (β = false ∧ (4096 : Int) < x.size ∧ RowKit.Hid ((true || ((f.names.drop (k + 1)).any longN || (f.acl.any (fun a => longI a.id) || Q))) = R)) ∨
      (β = false ∧ ¬ (4096 : Int) < x.size ∧ RowKit.Hid ((false || ((f.names.drop (k + 1)).any longN || (f.acl.any (fun a => longI a.id) || Q))) = R)) := by
     cases β with
     | true => exact .inl ⟨rfl, Lib.hid (by rw [Bool.true_or] at hp ⊢; exact hp)⟩
     | false =>
      unfold longN at hp
      by_cases d1 : 4096 < x.size
      ·rw [decide_eq_true d1] at hp; exact .inr (.inl ⟨rfl, by omega, Lib.hid (by simpa using hp)⟩)
      ·rw [decide_eq_false d1] at hp; exact .inr (.inr ⟨rfl, by omega, Lib.hid hp⟩)
    clear hp HP hr r1 hx
    rcases hc1 with ⟨rfl, H1⟩ | ⟨rfl, d1, H1⟩ | ⟨rfl, d1, H1⟩
    all_goals
     go_wp2
     go_round
     case rel => exact ⟨k + 1, _, by omega, by go_num, rfl, H1⟩
     case measure => simp [intOf]; omega
   ·obtain rfl : n3 = k := by omega
    have hp := HP.out
    rw [List.drop_of_length_le (by rw [hn3.out]; exact Nat.le_refl _), List.any_nil, Bool.false_or] at hp
    have HR := Lib.hid hp
    clear HP hp
    go_wp2
    go_loop [3, 5] (fun b i => ∃ (k : Nat) (β : Bool), k ≤ n2 ∧ i = .int .i64 k ∧ b = .bool β ∧ RowKit.Hid ((β || ((f.acl.drop k).any (fun a => longI a.id) || Q)) = R)) (fun _ i => n2 - (intOf i).toNat)
    case atStart => exact ⟨0, _, Nat.zero_le _, rfl, rfl, HR⟩
    case round =>
     obtain ⟨k, β, hk, rfl, rfl, HP⟩ := hrel
     clear HR
     by_cases hlt : k < n2
     ·have hkl : k < f.acl.length := by rw [hn2.out]; exact hlt
      obtain ⟨x, hx⟩ : ∃ x, f.acl[k] = x := ⟨_, rfl⟩
      have hr : (f.acl.map AclD.cells)[k]? = some x.cells := by rw [List.getElem?_map, List.getElem?_eq_getElem hkl, hx]; rfl
      obtain ⟨b1, o1, nn1, q1, e1, hb1, r1⟩ := h2'.row hr
      cases e1
      have p1 := r1 1 (.string x.id.scheme) rfl
      have p2 := r1 2 (.string x.id.id) rfl
      have hp := HP.out
      rw [List.drop_eq_getElem_cons hkl, List.any_cons, hx] at hp
      have hlg : longI x.id = (decide (256 < x.id.scheme.size) || decide (256 < x.id.id.size)) := rfl
      rw [hlg] at hp
      have hc1 : (β = true ∧ RowKit.Hid ((true || ((f.acl.drop (k + 1)).any (fun a => longI a.id) || Q)) = R)) ∨ (β = false ∧ (256 : Int) < x.id.scheme.size ∧ RowKit.Hid ((true || ((f.acl.drop (k + 1)).any (fun a => longI a.id) || Q)) = R)) ∨
        (β = false ∧ ¬ (256 : Int) < x.id.scheme.size ∧ (256 : Int) < x.id.id.size ∧ RowKit.Hid ((true || ((f.acl.drop (k + 1)).any (fun a => longI a.id) || Q)) = R)) ∨
        (β = false ∧ ¬ (256 : Int) < x.id.scheme.size ∧ ¬ (256 : Int) < x.id.id.size ∧ RowKit.Hid ((false || ((f.acl.drop (k + 1)).any (fun a => longI a.id) || Q)) = R)) := by
       cases β with
       | true => exact .inl ⟨rfl, Lib.hid (by rw [Bool.true_or] at hp ⊢; exact hp)⟩
       | false =>
        by_cases d1 : 256 < x.id.scheme.size
        ·rw [decide_eq_true d1] at hp; exact .inr (.inl ⟨rfl, by omega, Lib.hid (by simpa using hp)⟩)
        ·rw [decide_eq_false d1] at hp
         by_cases d2 : 256 < x.id.id.size
         ·rw [decide_eq_true d2] at hp; exact .inr (.inr (.inl ⟨rfl, by omega, by omega, Lib.hid (by simpa using hp)⟩))
         ·rw [decide_eq_false d2] at hp; exact .inr (.inr (.inr ⟨rfl, by omega, by omega, Lib.hid hp⟩))
      clear hp HP hr r1 hx hlg
      rcases hc1 with ⟨rfl, H1⟩ | ⟨rfl, d1, H1⟩ | ⟨rfl, d1, d2, H1⟩ | ⟨rfl, d1, d2, H1⟩
      all_goals
       go_wp2
       go_round
       case rel => exact ⟨k + 1, _, by omega, by go_num, rfl, H1⟩
       case measure => simp [intOf]; omega
     ·obtain rfl : n2 = k := by omega
      have hp := HP.out
      rw [List.drop_of_length_le (by rw [hn2.out]; exact Nat.le_refl _), List.any_nil, Bool.false_or] at hp
      subst hp
      clear HP
      cases β <;> cases Q
      all_goals
       go_wp2_with (go_at_call 120; with_reducible refine hI.mono ?_; rintro e w' ⟨rfl, rfl⟩)
       go_ret
       exact ⟨rfl, hbb⟩
def oddN (x : ByteArray) : Bool := !u8D x
def odd12 (f : ResF) : Bool := (oddIds f.ids || !u8D f.path) || (f.names.any oddN || f.acl.any badA)
abbrev ZC200 (x0 : ResF) (x1 : Option Addr) (x2 x3 : Nat) (x4 : Option Addr) (x5 x6 : Nat) (x7 : Option Addr) (x8 x9 : Nat) (x10 : Option Addr) (x11 x12 : Nat) (x13 : Option Addr) (x14 x15 : Nat) : Obj := (.cells #[.int .i32 x0.type, .int .i32 x0.code, .string x0.path, .int .i64 x0.czxid, .int .i64 x0.mzxid, .int .i64 x0.ctime, .int .i64 x0.mtime, .int .i32 x0.version, .int .i32 x0.cversion, .int .i32 x0.aversion, .int .i64 x0.owner, .int .i32 x0.dlen, .int .i32 x0.nkids, .int .i64 x0.pzxid, .slice x1 x2 x3, .slice x4 x5 x6, .slice x7 x8 x9, .int .i32 x0.count, .int .i64 x0.sid, .int .i32 x0.timeout, .slice x10 x11 x12, .slice x13 x14 x15] 40)
theorem refodd12_any (f : ResF) (hf : f.Ok) (n : Nat) (A : Nat → Prop) (cs : List Value) (w : World) (h : ResA A w f n cs) (hA : ∀ b, A b → b < w.heap.size) :
  Calls Tryz.prog 80 #[.agg cs.toArray] w fun e w' => e = .returned (.bool (odd12 f)) ∧ Below w.heap.size w w' := by
 obtain ⟨v1, v2, v3, v4, v5, rfl, h1, h2, h3, h4, rows, h5, hn5⟩ := h.ex
 clear h
 obtain ⟨n1, hn1⟩ : ∃ n, f.data.length = n := ⟨_, rfl⟩
 obtain ⟨n2, hn2⟩ : ∃ n, f.acl.length = n := ⟨_, rfl⟩
 obtain ⟨n3, hn3⟩ : ∃ n, f.names.length = n := ⟨_, rfl⟩
 obtain ⟨n4, hn4⟩ : ∃ n, f.ids.length = n := ⟨_, rfl⟩
 have m1 : n1 ≤ 1048576 := by rw [← hn1]; exact hf.data
 have m2 : n2 ≤ 1048576 := by rw [← hn2]; exact hf.acl
 have m3 : n3 ≤ 1048576 := by rw [← hn3]; exact hf.names
 have m4 : n4 ≤ 1048576 := by rw [← hn4]; exact hf.ids
 obtain ⟨s1, p1, rfl⟩ := h1.len'
 obtain ⟨s2, p2, rfl⟩ := h2.len'
 obtain ⟨s3, p3, rfl⟩ := h3.len'
 obtain ⟨s4, p4, rfl⟩ := h4.len'
 obtain ⟨s5, p5, rfl⟩ := h5.len'
 rw [List.length_map, hn1] at h1 ⊢
 rw [List.length_map, hn2] at h2 ⊢
 rw [List.length_map, hn3] at h3 ⊢
 rw [List.length_map, hn4] at h4 ⊢
 rw [hn5] at h5 ⊢
 replace hn1 := Lib.hid hn1
 replace hn2 := Lib.hid hn2
 replace hn3 := Lib.hid hn3
 replace hn4 := Lib.hid hn4
 replace hn5 := Lib.hid hn5
 have hbb : Below w.heap.size w (w.alloc (ZC200 f s1 n1 p1 s2 n2 p2 s3 n3 p3 s4 n4 p4 s5 n p5)) := (Below.refl w.heap.size w).alloc (Nat.le_refl _) _
 unfold ResF.cells
 have X3 : (w.alloc (ZC200 f s1 n1 p1 s2 n2 p2 s3 n3 p3 s4 n4 p4 s5 n p5)).cell? ⟨w.heap.size, 16, none⟩ = some (.slice s3 n3 p3) := st_at (heap_alloc_new w (ZC200 f s1 n1 p1 s2 n2 p2 s3 n3 p3 s4 n4 p4 s5 n p5)) rfl
 have X2 : (w.alloc (ZC200 f s1 n1 p1 s2 n2 p2 s3 n3 p3 s4 n4 p4 s5 n p5)).cell? ⟨w.heap.size, 15, none⟩ = some (.slice s2 n2 p2) := st_at (heap_alloc_new w (ZC200 f s1 n1 p1 s2 n2 p2 s3 n3 p3 s4 n4 p4 s5 n p5)) rfl
 have h3' := h3.below hA hbb
 have h2' := h2.below hA hbb
 have hz2 := hf.acl1
 have hz3 := hf.names1
 have hI := ids12_any f.ids A (.slice s4 n4 p4) (w.alloc (ZC200 f s1 n1 p1 s2 n2 p2 s3 n3 p3 s4 n4 p4 s5 n p5)) (h4.below hA hbb) (by rw [hn4.out]; exact m4) hf.ids1
 have hU := utf8_any f.path (w.alloc (ZC200 f s1 n1 p1 s2 n2 p2 s3 n3 p3 s4 n4 p4 s5 n p5)) (by have := hf.path; omega)
 obtain ⟨R, hR⟩ : ∃ R, odd12 f = R := ⟨_, rfl⟩
 rw [hR]
 unfold odd12 at hR
 generalize bigIds f.ids = Q' at hI
 generalize oddIds f.ids = Q at hR hI
 generalize u8D f.path = U at hR hU
 clear h1 h2 h3 h4 h5
 have hcase : (Q = true ∧ RowKit.Hid ((true || (f.names.any oddN || (f.acl.any badA))) = R)) ∨ (Q = false ∧ U = false ∧ RowKit.Hid ((true || (f.names.any oddN || (f.acl.any badA))) = R)) ∨
   (Q = false ∧ U = true ∧ RowKit.Hid ((false || (f.names.any oddN || (f.acl.any badA))) = R)) := by
  cases Q <;> cases U
  ·exact .inr (.inl ⟨rfl, rfl, Lib.hid hR⟩)
  ·exact .inr (.inr ⟨rfl, rfl, Lib.hid hR⟩)
  ·exact .inl ⟨rfl, Lib.hid hR⟩
  ·exact .inl ⟨rfl, Lib.hid hR⟩
 clear hR
 rcases hcase with ⟨rfl, HR⟩ | ⟨rfl, rfl, HR⟩ | ⟨rfl, rfl, HR⟩
 all_goals
  go_enter Tryz.func80, Tryz.ntmps80
  go_wp2_with (first
   | (go_at_call 120; with_reducible refine hI.mono ?_; rintro e w' ⟨rfl, rfl⟩)
   | (go_at_call 116; with_reducible refine hU.mono ?_; rintro e w' ⟨rfl, rfl⟩))
  go_loop [4, 5] (fun b i => ∃ (k : Nat) (β : Bool), k ≤ n3 ∧ i = .int .i64 k ∧ b = .bool β ∧ RowKit.Hid ((β || ((f.names.drop k).any oddN || (f.acl.any badA))) = R)) (fun _ i => n3 - (intOf i).toNat)
  case atStart => exact ⟨0, _, Nat.zero_le _, rfl, rfl, HR⟩
  case round =>
   obtain ⟨k, β, hk, rfl, rfl, HP⟩ := hrel
   clear HR
   by_cases hlt : k < n3
   ·have hkl : k < f.names.length := by rw [hn3.out]; exact hlt
    obtain ⟨x, hx⟩ : ∃ x, f.names[k] = x := ⟨_, rfl⟩
    have hV := utf8_any x (w.alloc (ZC200 f s1 n1 p1 s2 n2 p2 s3 n3 p3 s4 n4 p4 s5 n p5)) (by have := hz3 x (by rw [← hx]; exact List.getElem_mem hkl); omega)
    have hr : (f.names.map strCells)[k]? = some (strCells x) := by rw [List.getElem?_map, List.getElem?_eq_getElem hkl, hx]; rfl
    obtain ⟨b1, o1, nn1, q1, e1, hb1, r1⟩ := h3'.row hr
    cases e1
    have c0 := r1 0 (.string x) rfl
    rw [Nat.add_zero, Nat.mul_one] at c0
    have hp := HP.out
    rw [List.drop_eq_getElem_cons hkl, List.any_cons, hx] at hp
    unfold oddN at hp
    generalize u8D x = V at hp hV
    have hc1 : (β = true ∧ RowKit.Hid ((true || ((f.names.drop (k + 1)).any oddN || (f.acl.any badA))) = R)) ∨ (β = false ∧ V = false ∧ RowKit.Hid ((true || ((f.names.drop (k + 1)).any oddN || (f.acl.any badA))) = R)) ∨
      (β = false ∧ V = true ∧ RowKit.Hid ((false || ((f.names.drop (k + 1)).any oddN || (f.acl.any badA))) = R)) := by
     cases β with
     | true => exact .inl ⟨rfl, Lib.hid (by rw [Bool.true_or] at hp ⊢; exact hp)⟩
     | false =>
      cases V with
      | false => exact .inr (.inl ⟨rfl, rfl, Lib.hid hp⟩)
      | true => exact .inr (.inr ⟨rfl, rfl, Lib.hid hp⟩)
    clear hp HP hr r1 hx
    rcases hc1 with ⟨rfl, H1⟩ | ⟨rfl, rfl, H1⟩ | ⟨rfl, rfl, H1⟩
    all_goals
     go_wp2_with (go_at_call 116; with_reducible refine hV.mono ?_; rintro e w' ⟨rfl, rfl⟩)
     go_round
     case rel => exact ⟨k + 1, _, by omega, by go_num, rfl, H1⟩
     case measure => simp [intOf]; omega
   ·obtain rfl : n3 = k := by omega
    have hp := HP.out
    rw [List.drop_of_length_le (by rw [hn3.out]; exact Nat.le_refl _), List.any_nil, Bool.false_or] at hp
    have HR := Lib.hid hp
    clear HP hp
    go_wp2
    go_loop [4, 6] (fun b i => ∃ (k : Nat) (β : Bool), k ≤ n2 ∧ i = .int .i64 k ∧ b = .bool β ∧ RowKit.Hid ((β || (f.acl.drop k).any badA) = R)) (fun _ i => n2 - (intOf i).toNat)
    case atStart => exact ⟨0, _, Nat.zero_le _, rfl, rfl, HR⟩
    case round =>
     obtain ⟨k, β, hk, rfl, rfl, HP⟩ := hrel
     clear HR
     by_cases hlt : k < n2
     ·have hkl : k < f.acl.length := by rw [hn2.out]; exact hlt
      obtain ⟨x, hx⟩ : ∃ x, f.acl[k] = x := ⟨_, rfl⟩
      have hxm : x ∈ f.acl := by rw [← hx]; exact List.getElem_mem hkl
      have hr : (f.acl.map AclD.cells)[k]? = some x.cells := by rw [List.getElem?_map, List.getElem?_eq_getElem hkl, hx]; rfl
      have u1 := utf8_any x.id.scheme (w.alloc (ZC200 f s1 n1 p1 s2 n2 p2 s3 n3 p3 s4 n4 p4 s5 n p5)) (by have := (hz2 x hxm).1; omega)
      have u2 := utf8_any x.id.id (w.alloc (ZC200 f s1 n1 p1 s2 n2 p2 s3 n3 p3 s4 n4 p4 s5 n p5)) (by have := (hz2 x hxm).2; omega)
      obtain ⟨b1, o1, nn1, q1, e1, hb1, r1⟩ := h2'.row hr
      cases e1
      have p1 := r1 1 (.string x.id.scheme) rfl
      have p2 := r1 2 (.string x.id.id) rfl
      have hp := HP.out
      rw [List.drop_eq_getElem_cons hkl, List.any_cons, hx] at hp
      have hbd : badA x = (!u8D x.id.scheme || !u8D x.id.id) := rfl
      rw [hbd] at hp
      generalize u8D x.id.scheme = U1 at u1 hp
      generalize u8D x.id.id = U2 at u2 hp
      have hc1 : (β = true ∧ RowKit.Hid ((true || (f.acl.drop (k + 1)).any badA) = R)) ∨ (β = false ∧ U1 = false ∧ RowKit.Hid ((true || (f.acl.drop (k + 1)).any badA) = R)) ∨
        (β = false ∧ U1 = true ∧ U2 = false ∧ RowKit.Hid ((true || (f.acl.drop (k + 1)).any badA) = R)) ∨ (β = false ∧ U1 = true ∧ U2 = true ∧ RowKit.Hid ((false || (f.acl.drop (k + 1)).any badA) = R)) := by
       cases β with
       | true => exact .inl ⟨rfl, Lib.hid (by rw [Bool.true_or] at hp ⊢; exact hp)⟩
       | false =>
        cases U1 with
        | false => exact .inr (.inl ⟨rfl, rfl, Lib.hid (by simpa using hp)⟩)
        | true =>
         cases U2 with
         | false => exact .inr (.inr (.inl ⟨rfl, rfl, rfl, Lib.hid (by simpa using hp)⟩))
         | true => exact .inr (.inr (.inr ⟨rfl, rfl, rfl, Lib.hid (by simpa using hp)⟩))
      clear hp HP hr r1 hx hbd hxm
      rcases hc1 with ⟨rfl, H1⟩ | ⟨rfl, rfl, H1⟩ | ⟨rfl, rfl, rfl, H1⟩ | ⟨rfl, rfl, rfl, H1⟩
      all_goals
       go_wp2_with (first
        | (go_at_call 116; with_reducible refine u1.mono ?_; rintro e w' ⟨rfl, rfl⟩)
        | (go_at_call 116; with_reducible refine u2.mono ?_; rintro e w' ⟨rfl, rfl⟩))
       go_round
       case rel => exact ⟨k + 1, _, by omega, by go_num, rfl, H1⟩
       case measure => simp [intOf]; omega
     ·obtain rfl : n2 = k := by omega
      have hp := HP.out
      rw [List.drop_of_length_le (by rw [hn2.out]; exact Nat.le_refl _), List.any_nil, Bool.or_false] at hp
      subst hp
      clear HP
      go_wp2
      go_ret
      exact ⟨rfl, hbb⟩
def has12 (t : Int) (c : UInt8) : Bool := (fields12 t).contains c
def ResF.stat (f : ResF) : StatD := ⟨f.czxid, f.mzxid, f.ctime, f.mtime, f.version, f.cversion, f.aversion, f.owner, f.dlen, f.nkids, f.pzxid⟩
def sessB (f : ResF) : Bool := f.sid != 0 || (f.timeout != 0 || decide (0 < f.ids.length))
def spare12 (f : ResF) (n : Nat) : Bool :=
 (!has12 f.type 112 && !f.path.toList.isEmpty) || ((!has12 f.type 116 && !eqStatD f.stat StatD.zero) || ((!has12 f.type 100 && decide (0 < f.data.length)) || ((!has12 f.type 97 && decide (0 < f.acl.length)) ||
 ((!has12 f.type 110 && decide (0 < f.names.length)) || ((!has12 f.type 99 && f.count != 0) || ((!has12 f.type 105 && sessB f) || (!has12 f.type 109 && decide (0 < n))))))))
theorem fields12_cases (t : Int) : fields12 t = [112] ∨ fields12 t = [112, 116] ∨ fields12 t = [116] ∨ fields12 t = [100, 116] ∨ fields12 t = [97, 116] ∨ fields12 t = [110] ∨ fields12 t = [110, 116] ∨ fields12 t = [99] ∨ fields12 t = [105] ∨ fields12 t = [109] ∨ fields12 t = [101] ∨ fields12 t = [] ∨ fields12 t = [63] := by
 unfold fields12
 by_cases q1 : t = 1 ∨ t = 9
 ·rw [if_pos q1]; simp
 rw [if_neg q1]
 by_cases q2 : t = 15 ∨ t = 19 ∨ t = 21
 ·rw [if_pos q2]; simp
 rw [if_neg q2]
 by_cases q3 : t = 3 ∨ t = 5 ∨ t = 7
 ·rw [if_pos q3]; simp
 rw [if_neg q3]
 by_cases q4 : t = 4
 ·rw [if_pos q4]; simp
 rw [if_neg q4]
 by_cases q5 : t = 6
 ·rw [if_pos q5]; simp
 rw [if_neg q5]
 by_cases q6 : t = 8 ∨ t = 103
 ·rw [if_pos q6]; simp
 rw [if_neg q6]
 by_cases q7 : t = 12
 ·rw [if_pos q7]; simp
 rw [if_neg q7]
 by_cases q8 : t = 104
 ·rw [if_pos q8]; simp
 rw [if_neg q8]
 by_cases q9 : t = -10 ∨ t = 107
 ·rw [if_pos q9]; simp
 rw [if_neg q9]
 by_cases q10 : t = 14 ∨ t = 22
 ·rw [if_pos q10]; simp
 rw [if_neg q10]
 by_cases q11 : t = -1
 ·rw [if_pos q11]; simp
 rw [if_neg q11]
 by_cases q12 : t = 2 ∨ t = 13 ∨ t = 11 ∨ t = 106 ∨ t = 120 ∨ t = 121 ∨ t = -11 ∨ t = 20 ∨ t = 18 ∨ t = 101
 ·rw [if_pos q12]; simp
 rw [if_neg q12]; simp
theorem fields12_size (t : Int) : (⟨(fields12 t).toArray⟩ : ByteArray).size ≤ maxLen := by
 have : (fields12 t).length ≤ 2 := by
  rcases fields12_cases t with h | h | h | h | h | h | h | h | h | h | h | h | h <;> rw [h] <;> decide
 show (fields12 t).toArray.size ≤ maxLen
 rw [List.size_toArray]
 exact Nat.le_trans this (by decide)
theorem has12_any (t : Int) (c : UInt8) (w : World) : Calls Tryz.prog 119 #[.string ⟨(fields12 t).toArray⟩, .int .u8 c.toNat] w fun e w' => e = .returned (.bool (has12 t c)) ∧ w' = w := by
 refine (has119_any _ c w (fields12_size t)).mono ?_
 rintro e w' ⟨rfl, rfl⟩
 exact ⟨rfl, rfl⟩
set_option maxHeartbeats 64000000
theorem refspare12_any (f : ResF) (_hf : f.Ok) (n : Nat) (A : Nat → Prop) (cs : List Value) (w : World) (h : ResA A w f n cs) (_hA : ∀ b, A b → b < w.heap.size) :
  Calls Tryz.prog 76 #[.agg cs.toArray] w fun e w' => e = .returned (.bool (spare12 f n)) ∧ Below w.heap.size w w' := by
 obtain ⟨v1, v2, v3, v4, v5, hcs, h1, h2, h3, h4, rows, h5, hn5⟩ := h.ex
 clear h
 obtain ⟨n1, hn1⟩ := nm f.data.length
 obtain ⟨n2, hn2⟩ := nm f.acl.length
 obtain ⟨n3, hn3⟩ := nm f.names.length
 obtain ⟨n4, hn4⟩ := nm f.ids.length
 obtain ⟨s1, p1, rfl⟩ := h1.len'
 obtain ⟨s2, p2, rfl⟩ := h2.len'
 obtain ⟨s3, p3, rfl⟩ := h3.len'
 obtain ⟨s4, p4, rfl⟩ := h4.len'
 obtain ⟨s5, p5, rfl⟩ := h5.len'
 rw [List.length_map, hn1, List.length_map, hn2, List.length_map, hn3, List.length_map, hn4, hn5] at hcs
 have hbb : Below w.heap.size w (w.alloc (.cells cs.toArray 40)) := (Below.refl w.heap.size w).alloc (Nat.le_refl _) _
 have hr0 : (w.alloc (.cells cs.toArray 40)).rangeAt w.heap.size 0 cs := st_range (heap_alloc_new w _)
 have X0 := hr0 0 (.int .i32 f.type) (by rw [hcs]; rfl)
 have X2 := hr0 2 (.string f.path) (by rw [hcs]; rfl)
 have X3 := hr0 3 (.int .i64 f.czxid) (by rw [hcs]; rfl)
 have X4 := hr0 4 (.int .i64 f.mzxid) (by rw [hcs]; rfl)
 have X5 := hr0 5 (.int .i64 f.ctime) (by rw [hcs]; rfl)
 have X6 := hr0 6 (.int .i64 f.mtime) (by rw [hcs]; rfl)
 have X7 := hr0 7 (.int .i32 f.version) (by rw [hcs]; rfl)
 have X8 := hr0 8 (.int .i32 f.cversion) (by rw [hcs]; rfl)
 have X9 := hr0 9 (.int .i32 f.aversion) (by rw [hcs]; rfl)
 have X10 := hr0 10 (.int .i64 f.owner) (by rw [hcs]; rfl)
 have X11 := hr0 11 (.int .i32 f.dlen) (by rw [hcs]; rfl)
 have X12 := hr0 12 (.int .i32 f.nkids) (by rw [hcs]; rfl)
 have X13 := hr0 13 (.int .i64 f.pzxid) (by rw [hcs]; rfl)
 have X14 := hr0 14 (.slice s1 n1 p1) (by rw [hcs]; rfl)
 have X15 := hr0 15 (.slice s2 n2 p2) (by rw [hcs]; rfl)
 have X16 := hr0 16 (.slice s3 n3 p3) (by rw [hcs]; rfl)
 have X17 := hr0 17 (.int .i32 f.count) (by rw [hcs]; rfl)
 have X18 := hr0 18 (.int .i64 f.sid) (by rw [hcs]; rfl)
 have X19 := hr0 19 (.int .i32 f.timeout) (by rw [hcs]; rfl)
 have X20 := hr0 20 (.slice s4 n4 p4) (by rw [hcs]; rfl)
 have X21 := hr0 21 (.slice s5 n p5) (by rw [hcs]; rfl)
 clear hr0 hcs hn5 h1 h2 h3 h4 h5
 have hF := fields12_any f.type (w.alloc (.cells cs.toArray 40))
 obtain ⟨R, hR⟩ := nm (spare12 f n)
 rw [hR]
 unfold spare12 sessB at hR
 rw [hn1, hn2, hn3, hn4] at hR
 have hq7 := neq_stat f.stat StatD.zero
 obtain ⟨e7, he7⟩ := nm (!eqStatD f.stat StatD.zero)
 obtain ⟨b1, hb1⟩ := nm f.path.toList.isEmpty
 obtain ⟨e9, he9⟩ := nm (f.count != 0)
 obtain ⟨g1, hg1⟩ := nm (f.sid != 0)
 obtain ⟨g2, hg2⟩ := nm (f.timeout != 0)
 rw [he7] at hR hq7
 rw [hb1, he9, hg1, hg2] at hR
 simp only [ResF.stat, StatD.zero, StatD.cells] at hq7
 clear he7 hn1 hn2 hn3 hn4
 have c112 := has12_any f.type 112 (w.alloc (.cells cs.toArray 40))
 have c116 := has12_any f.type 116 (w.alloc (.cells cs.toArray 40))
 have c100 := has12_any f.type 100 (w.alloc (.cells cs.toArray 40))
 have c97 := has12_any f.type 97 (w.alloc (.cells cs.toArray 40))
 have c110 := has12_any f.type 110 (w.alloc (.cells cs.toArray 40))
 have c99 := has12_any f.type 99 (w.alloc (.cells cs.toArray 40))
 have c105 := has12_any f.type 105 (w.alloc (.cells cs.toArray 40))
 have c109 := has12_any f.type 109 (w.alloc (.cells cs.toArray 40))
 obtain ⟨F, hF'⟩ := nm (⟨(fields12 f.type).toArray⟩ : ByteArray)
 rw [hF'] at hF c112 c116 c100 c97 c110 c99 c105 c109
 clear hF'
 generalize has12 f.type 112 = h112 at c112 hR
 replace c112 : Calls Tryz.prog 119 #[.string F, .int .u8 112] (w.alloc (.cells cs.toArray 40)) fun e w' => e = .returned (.bool h112) ∧ w' = (w.alloc (.cells cs.toArray 40)) := c112
 generalize has12 f.type 116 = h116 at c116 hR
 replace c116 : Calls Tryz.prog 119 #[.string F, .int .u8 116] (w.alloc (.cells cs.toArray 40)) fun e w' => e = .returned (.bool h116) ∧ w' = (w.alloc (.cells cs.toArray 40)) := c116
 generalize has12 f.type 100 = h100 at c100 hR
 replace c100 : Calls Tryz.prog 119 #[.string F, .int .u8 100] (w.alloc (.cells cs.toArray 40)) fun e w' => e = .returned (.bool h100) ∧ w' = (w.alloc (.cells cs.toArray 40)) := c100
 generalize has12 f.type 97 = h97 at c97 hR
 replace c97 : Calls Tryz.prog 119 #[.string F, .int .u8 97] (w.alloc (.cells cs.toArray 40)) fun e w' => e = .returned (.bool h97) ∧ w' = (w.alloc (.cells cs.toArray 40)) := c97
 generalize has12 f.type 110 = h110 at c110 hR
 replace c110 : Calls Tryz.prog 119 #[.string F, .int .u8 110] (w.alloc (.cells cs.toArray 40)) fun e w' => e = .returned (.bool h110) ∧ w' = (w.alloc (.cells cs.toArray 40)) := c110
 generalize has12 f.type 99 = h99 at c99 hR
 replace c99 : Calls Tryz.prog 119 #[.string F, .int .u8 99] (w.alloc (.cells cs.toArray 40)) fun e w' => e = .returned (.bool h99) ∧ w' = (w.alloc (.cells cs.toArray 40)) := c99
 generalize has12 f.type 105 = h105 at c105 hR
 replace c105 : Calls Tryz.prog 119 #[.string F, .int .u8 105] (w.alloc (.cells cs.toArray 40)) fun e w' => e = .returned (.bool h105) ∧ w' = (w.alloc (.cells cs.toArray 40)) := c105
 generalize has12 f.type 109 = h109 at c109 hR
 replace c109 : Calls Tryz.prog 119 #[.string F, .int .u8 109] (w.alloc (.cells cs.toArray 40)) fun e w' => e = .returned (.bool h109) ∧ w' = (w.alloc (.cells cs.toArray 40)) := c109
 go_enter Tryz.func76, Tryz.ntmps76
 try simp only [List.append]
 go_wp2_with fail
 with_reducible refine kept hF ?_; dsimp only
 iterate 9 (first | go_values | go_skip | go_guarded | go_step | go_upon | go_back)
 obtain ⟨x0, hx0⟩ := nm (g1 || (g2 || decide (0 < n4)))
 refine wpList_cut 18 [8, 9, 10, 11, 12, 13, 14, 15, 16, 17, 18, 19, 20, 21, 22, 23, 24] 4 x0 ?_ (fun us => ?_)
 ·simp only [List.take]; rcases three g1 g2 with rfl | ⟨rfl, rfl⟩ | ⟨rfl, rfl⟩ <;> (simp at hx0; subst hx0; go_wp2; exact ⟨rfl, by kernel_rfl⟩)
 simp only [List.drop, puts, Act.put, List.setIfInBounds_toArray, List.set]
 iterate 5 (first | go_values | go_skip | go_guarded | go_step | go_upon | go_back)
 obtain ⟨x1, hx1⟩ := nm ((!h112 && !b1))
 refine wpList_cut 9 [25, 26, 27, 28, 29, 30, 31, 32] 33 x1 ?_ (fun us => ?_)
 ·simp only [List.take]; rcases Bool.eq_false_or_eq_true h112 with rfl | rfl <;> (simp at hx1; subst hx1; go_wp2_with (go_at_call 119; with_reducible refine kept c112 ?_; dsimp only); exact ⟨rfl, by kernel_rfl⟩)
 simp only [List.drop, puts, Act.put, List.setIfInBounds_toArray, List.set]
 obtain ⟨x2, hx2⟩ := nm (x1 || (!h116 && e7))
 refine wpList_cut 11 [34, 35, 36, 37, 38, 39, 40, 41, 42, 43] 44 x2 ?_ (fun us => ?_)
 ·simp only [List.take]; rcases three x1 h116 with rfl | ⟨rfl, rfl⟩ | ⟨rfl, rfl⟩ <;> (simp at hx2; subst hx2; go_wp2_with (go_at_call 119; with_reducible refine kept c116 ?_; dsimp only); exact ⟨rfl, by kernel_rfl⟩)
 simp only [List.drop, puts, Act.put, List.setIfInBounds_toArray, List.set]
 obtain ⟨x3, hx3⟩ := nm (x2 || (!h100 && decide (0 < n1)))
 refine wpList_cut 11 [45, 46, 47, 48, 49, 50, 51, 52, 53, 54] 55 x3 ?_ (fun us => ?_)
 ·simp only [List.take]; rcases three x2 h100 with rfl | ⟨rfl, rfl⟩ | ⟨rfl, rfl⟩ <;> (simp at hx3; subst hx3; go_wp2_with (go_at_call 119; with_reducible refine kept c100 ?_; dsimp only); exact ⟨rfl, by kernel_rfl⟩)
 simp only [List.drop, puts, Act.put, List.setIfInBounds_toArray, List.set]
 obtain ⟨x4, hx4⟩ := nm (x3 || (!h97 && decide (0 < n2)))
 refine wpList_cut 11 [56, 57, 58, 59, 60, 61, 62, 63, 64, 65] 66 x4 ?_ (fun us => ?_)
 ·simp only [List.take]; rcases three x3 h97 with rfl | ⟨rfl, rfl⟩ | ⟨rfl, rfl⟩ <;> (simp at hx4; subst hx4; go_wp2_with (go_at_call 119; with_reducible refine kept c97 ?_; dsimp only); exact ⟨rfl, by kernel_rfl⟩)
 simp only [List.drop, puts, Act.put, List.setIfInBounds_toArray, List.set]
 obtain ⟨x5, hx5⟩ := nm (x4 || (!h110 && decide (0 < n3)))
 refine wpList_cut 11 [67, 68, 69, 70, 71, 72, 73, 74, 75, 76] 77 x5 ?_ (fun us => ?_)
 ·simp only [List.take]; rcases three x4 h110 with rfl | ⟨rfl, rfl⟩ | ⟨rfl, rfl⟩ <;> (simp at hx5; subst hx5; go_wp2_with (go_at_call 119; with_reducible refine kept c110 ?_; dsimp only); exact ⟨rfl, by kernel_rfl⟩)
 simp only [List.drop, puts, Act.put, List.setIfInBounds_toArray, List.set]
 obtain ⟨x6, hx6⟩ := nm (x5 || (!h99 && e9))
 refine wpList_cut 10 [78, 79, 80, 81, 82, 83, 84, 85, 86] 87 x6 ?_ (fun us => ?_)
 ·simp only [List.take]; rcases three x5 h99 with rfl | ⟨rfl, rfl⟩ | ⟨rfl, rfl⟩ <;> (simp at hx6; subst hx6; go_wp2_with (go_at_call 119; with_reducible refine kept c99 ?_; dsimp only); exact ⟨rfl, by kernel_rfl⟩)
 simp only [List.drop, puts, Act.put, List.setIfInBounds_toArray, List.set]
 obtain ⟨x7, hx7⟩ := nm (x6 || (!h105 && x0))
 refine wpList_cut 8 [88, 89, 90, 91, 92, 93, 94] 95 x7 ?_ (fun us => ?_)
 ·simp only [List.take]; rcases three x6 h105 with rfl | ⟨rfl, rfl⟩ | ⟨rfl, rfl⟩ <;> (simp at hx7; subst hx7; go_wp2_with (go_at_call 119; with_reducible refine kept c105 ?_; dsimp only); exact ⟨rfl, by kernel_rfl⟩)
 simp only [List.drop, puts, Act.put, List.setIfInBounds_toArray, List.set]
 obtain ⟨x8, hx8⟩ := nm (x7 || (!h109 && decide (0 < n)))
 refine wpList_cut 11 [96, 97, 98, 99, 100, 101, 102, 103, 104, 105] 2 x8 ?_ (fun us => ?_)
 ·simp only [List.take]; rcases three x7 h109 with rfl | ⟨rfl, rfl⟩ | ⟨rfl, rfl⟩ <;> (simp at hx8; subst hx8; go_wp2_with (go_at_call 119; with_reducible refine kept c109 ?_; dsimp only); exact ⟨rfl, by kernel_rfl⟩)
 simp only [List.drop, puts, Act.put, List.setIfInBounds_toArray, List.set]
 go_wp2
 go_ret
 refine ⟨ret_bool ?_, hbb⟩
 rw [← hR]; subst_vars; simp only [Bool.or_assoc]
end Go.Proofs.YtfgjiidbafdndaaGreatDoor
