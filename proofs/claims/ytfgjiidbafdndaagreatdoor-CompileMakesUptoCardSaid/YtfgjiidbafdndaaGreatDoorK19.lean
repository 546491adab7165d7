/- Contracts: the texts of a result, as the program gathers them. -/
import Derived.Test.YtfgjiidbafdndaaGreatDoorK18
import Derived.Test.YtfgjiidbafdndaaGreatDoorK1
namespace Go.Proofs.YtfgjiidbafdndaaGreatDoor
open Go.RowKit
set_option maxHeartbeats 4000000
set_option maxRecDepth 100000
theorem idxStrB_any (g : Nat) (lb : Array Value) (eg : ∀ args w, (callFunc g args).run Tryz.prog w = .ok (.enter g args) w) (p : ByteArray → Bool) (l : List ByteArray) (A : Nat → Prop) (v : Value) (w : World) (h : SlR A w 1 v (l.map strCells))
  (hA : ∀ b, A b → b < w.heap.size) (hm : l.length ≤ 16777216) (hp : PredOn g lb (fun x => .string x) p l w) :
  Calls Tryz.prog 112 #[v, .func (.func g) #[] lb] w fun e w' => IdxPost (l.any p) e ∧ Below w.heap.size w w' := by
 obtain ⟨n, hn⟩ : ∃ n, l.length = n := ⟨_, rfl⟩
 obtain ⟨s, q, rfl⟩ := h.len'
 rw [List.length_map, hn] at h ⊢
 rw [hn] at hm
 obtain ⟨R, hR⟩ : ∃ R, l.any p = R := ⟨_, rfl⟩
 rw [hR]
 have HN := Lib.hid hn
 have HR := Lib.hid hR
 clear hn hR
 go_enter Tryz.func112, Tryz.ntmps112
 go_wp2
 go_loopw [5, 8] (fun _ i W => ∃ k : Nat, k ≤ n ∧ i = .int .i64 k ∧ RowKit.Hid ((l.drop k).any p = R) ∧ Below w.heap.size w W) (fun _ i _ => n - (intOf i).toNat)
 case atStart => exact ⟨0, Nat.zero_le _, rfl, HR, Below.refl _ _⟩
 case round =>
  obtain ⟨k, hk, rfl, HP, hb⟩ := hrel
  clear HR
  by_cases hlt : k < n
  ·have hkl : k < l.length := by rw [HN.out]; exact hlt
   obtain ⟨x, hx⟩ : ∃ x, l[k]? = some x := ⟨_, List.getElem?_eq_getElem hkl⟩
   have hxl : l[k] = x := (List.getElem?_eq_some_iff.1 hx).2
   have hr : (l.map strCells)[k]? = some (strCells x) := by rw [List.getElem?_map, hx]; rfl
   obtain ⟨b1, o1, n1, q1, e1, hb1, r1⟩ := h.row hr
   cases e1
   have r1 := range_below r1 hb (hA b1 hb1)
   have p0 := r1 0 (.string x) rfl
   rw [Nat.add_zero, Nat.mul_one] at p0
   have hcall := hp wr x (List.mem_of_getElem? hx) hb
   have hp' := HP.out
   rw [List.drop_eq_getElem_cons hkl, List.any_cons, hxl] at hp'
   clear HP hr hx hxl r1
   cases hq : p x with
   | true =>
    rw [hq] at hcall hp'
    rw [Bool.true_or] at hp'
    subst hp'
    clear hq
    go_wp2_with (go_at_fn g; refine hcall.mono ?_; rintro e w' ⟨rfl, hb'⟩)
    go_ret
    exact ⟨⟨_, rfl, by simp⟩, hb.trans (hb'.mono hb.size)⟩
   | false =>
    rw [hq] at hcall hp'
    rw [Bool.false_or] at hp'
    have HX := Lib.hid hp'
    clear hq hp'
    go_wp2_with (go_at_fn g; refine hcall.mono ?_; rintro e w' ⟨rfl, hb'⟩)
    go_roundw
    case rel => exact ⟨k + 1, by omega, by go_num, HX, hb.trans (hb'.mono hb.size)⟩
    case measure => simp [intOf]; omega
  ·obtain rfl : k = n := by omega
   have hp' := HP.out
   rw [List.drop_of_length_le (by rw [HN.out]; exact Nat.le_refl _), List.any_nil] at hp'
   subst hp'
   clear HP
   go_wp2
   go_ret
   exact ⟨⟨_, rfl, by decide⟩, hb⟩
theorem containsStrB_any (g : Nat) (lb : Array Value) (eg : ∀ args w, (callFunc g args).run Tryz.prog w = .ok (.enter g args) w) (p : ByteArray → Bool) (l : List ByteArray) (A : Nat → Prop) (v : Value) (w : World) (h : SlR A w 1 v (l.map strCells))
  (hA : ∀ b, A b → b < w.heap.size) (hm : l.length ≤ 16777216) (hp : PredOn g lb (fun x => .string x) p l w) :
  Calls Tryz.prog 67 #[v, .func (.func g) #[] lb] w fun e w' => e = .returned (.bool (l.any p)) ∧ Below w.heap.size w w' := by
 have hi := idxStrB_any g lb eg p l A v w h hA hm hp
 obtain ⟨R, hR⟩ : ∃ R, l.any p = R := ⟨_, rfl⟩
 rw [hR] at hi ⊢
 clear hR hp h
 go_enter Tryz.func67, Tryz.ntmps67
 go_wp2_with (go_at_call 112; refine hi.mono ?_; rintro e w' ⟨⟨i, rfl, hi⟩, hb⟩)
 all_goals
  go_ret
  refine ⟨ret_bool ?_, hb⟩
  simp
theorem poddS_any (s : ByteArray) (w : World) (hs : s.size ≤ 4611686018427387904) (G : Glob w) :
  Calls Tryz.prog 68 #[.string s] w fun e w' => e = .returned (.bool (oddN s)) ∧ Below w.heap.size w w' := by
 have hV := pvalid_any s w hs G
 unfold oddN
 go_enter Tryz.func68, Tryz.ntmps68
 go_wp2_with (go_at_call 69; refine hV.mono ?_; rintro e w' ⟨rfl, hb⟩)
 go_ret
 exact ⟨rfl, hb⟩
theorem plongS_any (s : ByteArray) (b most : Nat) (w : World) (_hs : s.size ≤ 4611686018427387904) (hb : w.cell? ⟨b, 0, none⟩ = some (.int .i64 most)) :
  Calls Tryz.prog 111 #[.string s, .pointer (some ⟨b, 0, none⟩)] w fun e w' => e = .returned (.bool (decide (most < s.size))) ∧ w' = w := by
 by_cases h : most < s.size
 ·have hz : (most : Int) < s.size := by omega
  rw [decide_eq_true h]
  go_enter Tryz.func111, Tryz.ntmps111
  go_wp2
  go_ret
  exact ⟨rfl, rfl⟩
 ·have hz : ¬ (most : Int) < s.size := by omega
  rw [decide_eq_false h]
  go_enter Tryz.func111, Tryz.ntmps111
  go_wp2
  go_ret
  exact ⟨ret_bool (by simp), rfl⟩
theorem plongMk_any (most : Nat) (w : World) :
  Calls Tryz.prog 110 #[.int .i64 most] w fun e w' => e = .returned (.func (.func 111) #[] #[.pointer (some ⟨w.heap.size, 0, none⟩)]) ∧ w' = w.alloc (.cells #[.int .i64 most] 3) := by
 go_enter Tryz.func110, Tryz.ntmps110
 go_wp2
 go_ret
 exact ⟨rfl, rfl⟩
def textsA (l : List AclD) : List ByteArray := l.flatMap fun a => [a.id.scheme, a.id.id]
def textsI (l : List IdD) : List ByteArray := l.flatMap fun x => [x.scheme, x.id]
theorem owns_base {w : World} {b b' : Nat} {e : TypeId} {sz n : Nat} {v : Value} {xs : List Value} (h : w.ownsRow b e sz v n xs) (hb : b' ≤ b) : w.ownsRow b' e sz v n xs := by
 obtain ⟨h1, h2⟩ := h
 refine ⟨h1, ?_⟩
 rcases h2 with h2 | ⟨g, cap, cur, a, b, c, d⟩
 ·exact .inl h2
 ·exact .inr ⟨g, cap, cur, a, by omega, c, d⟩
theorem ptexts_any (f : ResF) (hf : f.Ok) (n : Nat) (A : Nat → Prop) (cs : List Value) (w : World) (h : ResA A w f n cs) (hA : ∀ b, A b → b < w.heap.size) :
  Calls Tryz.prog 66 #[.agg cs.toArray] w fun e w' => ∃ v, e = .returned v ∧ Below w.heap.size w w' ∧ w'.ownsRow w.heap.size 9 1 v (2 * (f.acl.length + f.ids.length)) ((textsA f.acl ++ textsI f.ids).map Value.string) := by
 have hb0 : RowKit.Hid (Below w.heap.size w (w.alloc (.cells cs.toArray 40))) := Lib.hid ((Below.refl w.heap.size w).alloc (Nat.le_refl _) _)
 have hr0 : (w.alloc (.cells cs.toArray 40)).rangeAt w.heap.size 0 cs := st_range (heap_alloc_new w _)
 have hlt0 : w.heap.size < (w.alloc (.cells cs.toArray 40)).heap.size := by simp
 obtain ⟨vd, va, vn, vi, vs, hcs, h1, h2, h3, h4, rows, h5, hn5⟩ := h.ex
 clear h h1 h3 h5 hn5
 have x15 : (w.alloc (.cells cs.toArray 40)).cell? ⟨w.heap.size, 15, none⟩ = some va := hr0 15 _ (by rw [hcs]; rfl)
 have x20 : (w.alloc (.cells cs.toArray 40)).cell? ⟨w.heap.size, 20, none⟩ = some vi := hr0 20 _ (by rw [hcs]; rfl)
 obtain ⟨a2, c2, rfl⟩ := h2.len'
 obtain ⟨a4, c4, rfl⟩ := h4.len'
 obtain ⟨n2, hn2⟩ : ∃ n, f.acl.length = n := ⟨_, rfl⟩
 obtain ⟨n4, hn4⟩ : ∃ n, f.ids.length = n := ⟨_, rfl⟩
 rw [List.length_map, hn2] at h2 x15
 rw [List.length_map, hn4] at h4 x20
 rw [hn2, hn4]
 have m2 : n2 ≤ 1048576 := by rw [← hn2]; exact hf.acl
 have m4 : n4 ≤ 1048576 := by rw [← hn4]; exact hf.ids
 have HN2 := Lib.hid hn2
 have HN4 := Lib.hid hn4
 have X20 := Lib.hid x20
 replace h2 := Lib.hid h2
 replace h4 := Lib.hid h4
 clear hn2 hn4 hr0 hcs
 go_enter Tryz.func66, Tryz.ntmps66
 go_wp2
 go_loopw [3, 5, 11] (fun v0 _ i W => ∃ (k : Nat) (v : Value), v = v0 ∧ k ≤ n2 ∧ i = .int .i64 k ∧ RowKit.Hid (W.ownsRow (w.alloc (.cells cs.toArray 40)).heap.size 9 1 v (2 * k) (([] ++ textsA (f.acl.take k)).map Value.string)) ∧ RowKit.Hid (Below (w.alloc (.cells cs.toArray 40)).heap.size (w.alloc (.cells cs.toArray 40)) W)) (fun _ _ i _ => n2 - (intOf i).toNat)
 case atStart => exact ⟨0, .slice none 0 0, rfl, Nat.zero_le _, rfl, Lib.hid (World.ownsRow_nil _ _ _ _), Lib.hid (Below.refl _ _)⟩
 case round =>
  obtain ⟨k, v, rfl, hk, rfl, HO, HB⟩ := hrel
  have hbw := hb0.out.trans (HB.out.mono hb0.out.size)
  by_cases hlt : k < n2
  ·have hkl : k < f.acl.length := by rw [HN2.out]; exact hlt
   obtain ⟨x, hx⟩ : ∃ x, f.acl[k]? = some x := ⟨_, List.getElem?_eq_getElem hkl⟩
   have hxl : f.acl[k] = x := (List.getElem?_eq_some_iff.1 hx).2
   have hr : (f.acl.map AclD.cells)[k]? = some (AclD.cells x) := by rw [List.getElem?_map, hx]; rfl
   obtain ⟨b1, o1, q1, q2, e1, hb1, r1⟩ := h2.out.row hr
   cases e1
   have r1 := range_below r1 hbw (hA b1 hb1)
   have p0 := r1 0 (.int .i32 x.perms) rfl
   have p1 := r1 1 (.string x.id.scheme) rfl
   have p2 := r1 2 (.string x.id.id) rfl
   rw [Nat.add_zero] at p0
   have hbA : Below wr.heap.size wr ((wr.alloc (.cells #[.int .i32 x.perms, .string x.id.scheme, .string x.id.id] 81)).alloc (.cells #[.string x.id.scheme, .string x.id.id] 9)) := ((Below.refl _ _).alloc (Nat.le_refl _) _).alloc (by simp) _
   have HBC := Lib.hid (HB.out.trans (hbA.mono HB.out.size))
   have HOC := Lib.hid ((HO.out.alloc (.cells #[.int .i32 x.perms, .string x.id.scheme, .string x.id.id] 81)).alloc (.cells #[.string x.id.scheme, .string x.id.id] 9))
   have hrd : Rd ((wr.alloc (.cells #[.int .i32 x.perms, .string x.id.scheme, .string x.id.id] 81)).alloc (.cells #[.string x.id.scheme, .string x.id.id] 9)) 1 (some ⟨wr.heap.size + 1, 0, none⟩) 2 [.string x.id.scheme, .string x.id.id] := ⟨rfl, fun _ => ⟨wr.heap.size + 1, 0, rfl, fun k u hu => by
    have := new_range (wr.alloc (.cells #[.int .i32 x.perms, .string x.id.scheme, .string x.id.id] 81)) [.string x.id.scheme, .string x.id.id] 9 k u hu
    rwa [show (wr.alloc (.cells #[.int .i32 x.perms, .string x.id.scheme, .string x.id.id] 81)).heap.size = wr.heap.size + 1 by simp] at this⟩⟩
   have HRD := Lib.hid hrd
   have hbase : (w.alloc (.cells cs.toArray 40)).heap.size ≤ ((wr.alloc (.cells #[.int .i32 x.perms, .string x.id.scheme, .string x.id.id] 81)).alloc (.cells #[.string x.id.scheme, .string x.id.id] 9)).heap.size := Nat.le_trans HB.out.size hbA.size
   have HBASE := Lib.hid hbase
   have hnx : (([] ++ textsA (f.acl.take k)).map Value.string) ++ [.string x.id.scheme, .string x.id.id] = (([] ++ textsA (f.acl.take (k + 1))).map Value.string) := by
    rw [List.take_succ_eq_append_getElem hkl, hxl]
    unfold textsA
    simp [List.flatMap_append]
   have HNX := Lib.hid hnx
   clear hr hx hxl r1 hbA hrd hbase hnx
   go_wp2_with (first
    | (at_builtin; refine wpList_app sStr rfl (.tmp 15) (.tmp 22) rfl (w.alloc (.cells cs.toArray 40)).heap.size v (2 * k) (([] ++ textsA (f.acl.take k)).map Value.string) rfl HOC.out (some ⟨wr.heap.size + 1, 0, none⟩) 2 2 [.string x.id.scheme, .string x.id.id] rfl HRD.out (fun _ h => by cases h) (by intro u hu; simp only [List.mem_cons, List.not_mem_nil, or_false] at hu; rcases hu with rfl | rfl <;> rfl) (by unfold maxLen; omega) (by omega) HBASE.out ?_; intro v1 w1 hown1 hg1 hat1)
    | fail)
   have HO3 := Lib.hid hown1
   have HB3 := Lib.hid (below_app HBC.out hg1 HOC.out (Nat.le_refl _) HBASE.out)
   clear hown1 hg1 hat1
   go_roundw
   case rel => exact ⟨k + 1, v1, rfl, by omega, by go_num, by rw [← HNX.out]; exact HO3, HB3⟩
   case measure => simp [intOf]; omega
  ·obtain rfl : n2 = k := by omega
   rw [List.take_of_length_le (by rw [HN2.out]; exact Nat.le_refl _)] at HO
   have HO2 : RowKit.Hid (wr.ownsRow (w.alloc (.cells cs.toArray 40)).heap.size 9 1 v (2 * (n2 + 0)) ((textsA f.acl ++ textsI (f.ids.take 0)).map Value.string)) := Lib.hid (by
    have := HO.out
    rw [List.take_zero]
    simpa [textsI] using this)
   have HB2 := HB
   have x20r := (HB.out.cell (p := ⟨w.heap.size, 20, none⟩) hlt0).trans X20.out
   clear x15 x20 HO HB
   go_wp2
   go_loopw [3, 7, 29] (fun v0 _ i W => ∃ (k : Nat) (v : Value), v = v0 ∧ k ≤ n4 ∧ i = .int .i64 k ∧ RowKit.Hid (W.ownsRow (w.alloc (.cells cs.toArray 40)).heap.size 9 1 v (2 * (n2 + k)) ((textsA f.acl ++ textsI (f.ids.take k)).map Value.string)) ∧ RowKit.Hid (Below (w.alloc (.cells cs.toArray 40)).heap.size (w.alloc (.cells cs.toArray 40)) W)) (fun _ _ i _ => n4 - (intOf i).toNat)
   case atStart => exact ⟨0, v, rfl, Nat.zero_le _, rfl, HO2, HB2⟩
   case round =>
    obtain ⟨k, v, rfl, hk, rfl, HO, HB⟩ := hrel
    have hbw := hb0.out.trans (HB.out.mono hb0.out.size)
    by_cases hlt : k < n4
    ·have hkl : k < f.ids.length := by rw [HN4.out]; exact hlt
     obtain ⟨x, hx⟩ : ∃ x, f.ids[k]? = some x := ⟨_, List.getElem?_eq_getElem hkl⟩
     have hxl : f.ids[k] = x := (List.getElem?_eq_some_iff.1 hx).2
     have hr : (f.ids.map IdD.cells)[k]? = some (IdD.cells x) := by rw [List.getElem?_map, hx]; rfl
     obtain ⟨b1, o1, q1, q2, e1, hb1, r1⟩ := h4.out.row hr
     cases e1
     have r1 := range_below r1 hbw (hA b1 hb1)
     have p0 := r1 0 (.string x.scheme) rfl
     have p1 := r1 1 (.string x.id) rfl
     rw [Nat.add_zero] at p0
     have hbA : Below wr.heap.size wr ((wr.alloc (.cells #[.string x.scheme, .string x.id] 79)).alloc (.cells #[.string x.scheme, .string x.id] 9)) := ((Below.refl _ _).alloc (Nat.le_refl _) _).alloc (by simp) _
     have HBC := Lib.hid (HB.out.trans (hbA.mono HB.out.size))
     have HOC := Lib.hid ((HO.out.alloc (.cells #[.string x.scheme, .string x.id] 79)).alloc (.cells #[.string x.scheme, .string x.id] 9))
     have hrd : Rd ((wr.alloc (.cells #[.string x.scheme, .string x.id] 79)).alloc (.cells #[.string x.scheme, .string x.id] 9)) 1 (some ⟨wr.heap.size + 1, 0, none⟩) 2 [.string x.scheme, .string x.id] := ⟨rfl, fun _ => ⟨wr.heap.size + 1, 0, rfl, fun k u hu => by
      have := new_range (wr.alloc (.cells #[.string x.scheme, .string x.id] 79)) [.string x.scheme, .string x.id] 9 k u hu
      rwa [show (wr.alloc (.cells #[.string x.scheme, .string x.id] 79)).heap.size = wr.heap.size + 1 by simp] at this⟩⟩
     have HRD := Lib.hid hrd
     have hbase : (w.alloc (.cells cs.toArray 40)).heap.size ≤ ((wr.alloc (.cells #[.string x.scheme, .string x.id] 79)).alloc (.cells #[.string x.scheme, .string x.id] 9)).heap.size := Nat.le_trans HB.out.size hbA.size
     have HBASE := Lib.hid hbase
     have hnx : ((textsA f.acl ++ textsI (f.ids.take k)).map Value.string) ++ [.string x.scheme, .string x.id] = ((textsA f.acl ++ textsI (f.ids.take (k + 1))).map Value.string) := by
      rw [List.take_succ_eq_append_getElem hkl, hxl]
      unfold textsI
      simp [List.flatMap_append]
     have HNX := Lib.hid hnx
     clear hr hx hxl r1 hbA hrd hbase hnx
     go_wp2_with (first
      | (at_builtin; refine wpList_app sStr rfl (.tmp 33) (.tmp 38) rfl (w.alloc (.cells cs.toArray 40)).heap.size v (2 * (n2 + k)) ((textsA f.acl ++ textsI (f.ids.take k)).map Value.string) rfl HOC.out (some ⟨wr.heap.size + 1, 0, none⟩) 2 2 [.string x.scheme, .string x.id] rfl HRD.out (fun _ h => by cases h) (by intro u hu; simp only [List.mem_cons, List.not_mem_nil, or_false] at hu; rcases hu with rfl | rfl <;> rfl) (by unfold maxLen; omega) (by omega) HBASE.out ?_; intro v1 w1 hown1 hg1 hat1)
      | fail)
     have HO3 := Lib.hid hown1
     have HB3 := Lib.hid (below_app HBC.out hg1 HOC.out (Nat.le_refl _) HBASE.out)
     clear hown1 hg1 hat1
     go_roundw
     case rel => exact ⟨k + 1, v1, rfl, by omega, by go_num, by rw [← HNX.out]; exact HO3, HB3⟩
     case measure => simp [intOf]; omega
    ·obtain rfl : n4 = k := by omega
     rw [List.take_of_length_le (by rw [HN4.out]; exact Nat.le_refl _)] at HO
     go_wp2
     go_ret
     exact ⟨_, rfl, hbw, owns_base HO.out (Nat.le_of_lt hlt0)⟩
theorem texts_any (f : ResF) (p : ByteArray → Bool) : (textsA f.acl ++ textsI f.ids).any p = (f.acl.any (fun a => p a.id.scheme || p a.id.id) || f.ids.any (fun x => p x.scheme || p x.id)) := by
 rw [List.any_append]
 unfold textsA textsI
 rw [List.any_flatMap, List.any_flatMap]
 congr 1
 ·congr 1; funext a; simp
 ·congr 1; funext a; simp
theorem texts_mem (f : ResF) (hf : f.Ok) : ∀ s ∈ textsA f.acl ++ textsI f.ids, s.size ≤ 1048576 := fun s hs => by
 rcases List.mem_append.1 hs with hs | hs
 ·unfold textsA at hs
  obtain ⟨a, ha, hs⟩ := List.mem_flatMap.1 hs
  simp only [List.mem_cons, List.not_mem_nil, or_false] at hs
  rcases hs with rfl | rfl
  ·exact (hf.acl1 a ha).1
  ·exact (hf.acl1 a ha).2
 ·unfold textsI at hs
  obtain ⟨a, ha, hs⟩ := List.mem_flatMap.1 hs
  simp only [List.mem_cons, List.not_mem_nil, or_false] at hs
  rcases hs with rfl | rfl
  ·exact (hf.ids1 a ha).1
  ·exact (hf.ids1 a ha).2
theorem textsA_len : ∀ l : List AclD, (textsA l).length = 2 * l.length
 | [] => rfl
 | a :: l => by
  have := textsA_len l
  unfold textsA at this ⊢
  rw [List.flatMap_cons, List.length_append, this]
  simp only [List.length_cons, List.length_nil]
  omega
theorem textsI_len : ∀ l : List IdD, (textsI l).length = 2 * l.length
 | [] => rfl
 | a :: l => by
  have := textsI_len l
  unfold textsI at this ⊢
  rw [List.flatMap_cons, List.length_append, this]
  simp only [List.length_cons, List.length_nil]
  omega
theorem texts_len (f : ResF) : (textsA f.acl ++ textsI f.ids).length = 2 * (f.acl.length + f.ids.length) := by
 rw [List.length_append, textsA_len, textsI_len]; omega
theorem str_flat (l : List ByteArray) : (l.map strCells).flatten = l.map Value.string := by
 induction l with
 | nil => rfl
 | cons x t ih => simp only [List.map_cons, List.flatten_cons, ih]; rfl
theorem slr_texts {w : World} {base n : Nat} {v : Value} {l : List ByteArray} (h : w.ownsRow base 9 1 v n (l.map Value.string)) (hn : l.length = n) : SlR (fun b => base ≤ b ∧ b < w.heap.size) w 1 v (l.map strCells) := by
 rw [← str_flat] at h
 exact slr_own h (by rw [List.length_map, hn]) (fun r hr => by obtain ⟨x, _, rfl⟩ := List.mem_map.1 hr; rfl)
def long256 (s : ByteArray) : Bool := decide (256 < s.size)
theorem great_order (f : ResF) : great12 f = (decide (4096 < f.path.size) || (f.names.any longN || (decide (1048575 < f.data.length) || (decide (16 < f.acl.length) || (decide (1048576 < f.names.length) || (decide (16 < f.ids.length) || (textsA f.acl ++ textsI f.ids).any long256)))))) := by
 rw [texts_any]
 unfold great12 b12D bigIds
 have e1 : (fun a : AclD => longI a.id) = fun a : AclD => long256 a.id.scheme || long256 a.id.id := rfl
 have e2 : longI = fun x : IdD => long256 x.scheme || long256 x.id := rfl
 rw [e1, e2]
 generalize decide (4096 < f.path.size) = x1
 generalize f.names.any longN = x2
 generalize decide (1048575 < f.data.length) = x3
 generalize decide (16 < f.acl.length) = x4
 generalize decide (1048576 < f.names.length) = x5
 generalize decide (16 < f.ids.length) = x6
 generalize f.acl.any _ = x7
 generalize f.ids.any _ = x8
 cases x1 <;> cases x2 <;> cases x3 <;> cases x4 <;> cases x5 <;> cases x6 <;> cases x7 <;> cases x8 <;> rfl
section
section
variable {P : Program} {md : Region.Mode} {ops : Array Oper} {Q : Exit → Act → World → Prop} {S : World → Prop}
def easy2 (a : Act) (o : Oper) : Option Value :=
 match o.op with
 | .move x => some (a.eval x)
 | .assign x => some (a.eval x)
 | .pick c x y => match a.eval c with
  | .bool b => some (if b then a.eval x else a.eval y)
  | _ => none
 | _ => none
theorem easy_run2 {a : Act} {o : Oper} {v : Value} (h : easy2 a o = some v) (w : World) : (execOp a.eval o).run P w = .ok (.value v) w := by
 unfold easy2 at h
 split at h
 ·rename_i x hx; cases h; unfold execOp; simp only [hx]; rfl
 ·rename_i x hx; cases h; unfold execOp; simp only [hx]; rfl
 ·rename_i c x y hx
  split at h
  ·rename_i b hb; cases h; unfold execOp; simp only [hx, hb]; rfl
  ·cases h
 ·cases h
def isBool2 (b : Bool) : Option Value → Bool
 | some (.bool b') => b == b'
 | _ => false
theorem isBool_some2 {b : Bool} {v : Option Value} (h : isBool2 b v = true) : v = some (.bool b) := by
 unfold isBool2 at h
 split at h
 ·rename_i b'; rw [show b = b' by simpa using h]
 ·cases h
def valO2 : Option Bool → Value
 | none => undef
 | some b => .bool b
def runOk2 (md : Region.Mode) (ops : Array Oper) : List (Nat × Nat × Option Bool) → Array Bool → Act → Bool
 | [], _, _ => true
 | (i, d, x) :: js, l, a => match ops[i]? with
  | none => false
  | some o => o.dst == some d && (Region.free md ops l i && ((Region.ready md ops l).contains i && ((match x with | none => !Region.wanted o (yielded ops a.tmps) | some b => Region.wanted o (yielded ops a.tmps) && isBool2 b (easy2 a o)) && runOk2 md ops js (l.setIfInBounds i true) (a.put (some d) (valO2 x)))))
def runL2 : List (Nat × Nat × Option Bool) → Array Bool → Array Bool
 | [], l => l
 | (i, _, _) :: js, l => runL2 js (l.setIfInBounds i true)
def runA2 : List (Nat × Nat × Option Bool) → Act → Act
 | [], a => a
 | (_, d, x) :: js, a => runA2 js (a.put (some d) (valO2 x))
theorem tkr_aux2 (hs : Region.noSelect ops = true) (hQ : ∀ c (a : Act) t w, Q (.panic c) { a with tmps := t } w → Q (.panic c) a w) {w : World} (hS : S w) : ∀ (js : List (Nat × Nat × Option Bool)) (fuel : Nat) (listed : Array Bool) (a : Act),
  runOk2 md ops js listed a = true → wpAnyH P md ops Q S fuel (runL2 js listed) (runA2 js a) w → wpAnyH P md ops Q S (fuel + js.length) listed a w
 | [], _, _, _, _, h => h
 | (i, d, x) :: js, fuel, l, a, hk, h => by
  unfold runOk2 at hk
  split at hk
  ·cases hk
  ·rename_i o ho
   simp only [Bool.and_eq_true] at hk
   obtain ⟨hd, hf, hr, hx, hrest⟩ := hk
   have hd : o.dst = some d := by simpa using hd
   have ih := tkr_aux2 hs hQ hS js fuel (l.setIfInBounds i true) (a.put (some d) (valO2 x)) hrest h
   rw [← hd] at ih
   refine wpAnyH_take (v := valO2 x) ho hs hf hr (fun c a' w' h' => by rw [hd] at h'; exact hQ c a' _ w' h') ?_ hS ih
   cases x with
   | none => exact .inr ⟨by simpa using hx, rfl⟩
   | some b =>
    simp only [Bool.and_eq_true] at hx
    refine .inl ⟨hx.1, fun w _ => easy_run2 ?_ w⟩
    exact isBool_some2 hx.2
theorem tkr2 {fuel : Nat} {listed : Array Bool} {a : Act} {w : World} (js : List (Nat × Nat × Option Bool)) (n : Nat) (hS : S w) (h : wpAnyH P md ops Q S n (runL2 js listed) (runA2 js a) w)
  (hn : n + js.length = fuel := by rfl) (hk : (Region.noSelect ops && runOk2 md ops js listed a) = true := by kernel_rfl)
  (hQ : ∀ c (a : Act) t w, Q (.panic c) { a with tmps := t } w → Q (.panic c) a w := by exact fun _ _ _ _ h => h) : wpAnyH P md ops Q S fuel listed a w := by
 simp only [Bool.and_eq_true] at hk
 subst hn
 exact tkr_aux2 hk.1 hQ hS js n listed a hk.2 h
end
end
set_option maxHeartbeats 64000000
def o65_0 : Oper := { dst := some 4, op := Op.fieldAddr 40 (Operand.tmp 1) 2, type := 0, pos := "reply.go:116", after := #[], guard := none }
def o65_1 : Oper := { dst := some 5, op := Op.load 9 (Operand.tmp 4), type := 9, pos := "reply.go:116", after := #[{ on := 0, ground := Ground.data }], guard := none }
def o65_2 : Oper := { dst := some 6, op := Op.call { callee := Callee.builtin Builtin.len, args := #[Operand.tmp 5], argTypes := #[9] }, type := 3, pos := "reply.go:116", after := #[{ on := 1, ground := Ground.data }], guard := none }
def o65_3 : Oper := { dst := some 7, op := Op.binOp BinOp.gtr 3 (Operand.tmp 6) (Operand.const (Value.int IntKind.i64 4096)) 3, type := 4, pos := "reply.go:116", after := #[{ on := 2, ground := Ground.data }], guard := none }
def o65_4 : Oper := { dst := some 8, op := Op.move (Operand.tmp 7), type := 4, pos := "reply.go:116", after := #[{ on := 3, ground := Ground.data }], guard := none }
def o65_5 : Oper := { dst := some 9, op := Op.fieldAddr 40 (Operand.tmp 1) 6, type := 0, pos := "reply.go:116", after := #[{ on := 4, ground := Ground.guard }], guard := some (4, false) }
def o65_6 : Oper := { dst := some 10, op := Op.load 29 (Operand.tmp 9), type := 29, pos := "reply.go:116", after := #[{ on := 5, ground := Ground.data }, { on := 4, ground := Ground.guard }], guard := some (4, false) }
def o65_7 : Oper := { dst := some 11, op := Op.move (Operand.tmp 3), type := 166, pos := "reply.go:116", after := #[{ on := 4, ground := Ground.guard }], guard := some (4, false) }
def o65_8 : Oper := { dst := some 12, op := Op.call { callee := Callee.value (Operand.tmp 11), args := #[Operand.const (Value.int IntKind.i64 4096)], argTypes := #[3] }, type := 123, pos := "reply.go:116", after := #[{ on := 7, ground := Ground.data }, { on := 4, ground := Ground.chain }, { on := 4, ground := Ground.guard }], guard := some (4, false) }
def o65_9 : Oper := { dst := some 13, op := Op.call { callee := Callee.value (Operand.func 67), args := #[Operand.tmp 10, Operand.tmp 12], argTypes := #[29, 123] }, type := 4, pos := "reply.go:116", after := #[{ on := 6, ground := Ground.data }, { on := 8, ground := Ground.data }, { on := 8, ground := Ground.chain }, { on := 4, ground := Ground.guard }], guard := some (4, false) }
def o65_10 : Oper := { dst := some 14, op := Op.pick (Operand.tmp 8) (Operand.const (Value.bool true)) (Operand.tmp 13), type := 4, pos := "reply.go:116", after := #[{ on := 4, ground := Ground.data }, { on := 9, ground := Ground.data }], guard := none }
def o65_11 : Oper := { dst := some 15, op := Op.move (Operand.tmp 14), type := 4, pos := "reply.go:116", after := #[{ on := 10, ground := Ground.data }, { on := 9, ground := Ground.chain }], guard := none }
def o65_12 : Oper := { dst := some 16, op := Op.fieldAddr 40 (Operand.tmp 1) 4, type := 0, pos := "reply.go:116", after := #[{ on := 11, ground := Ground.guard }], guard := some (11, false) }
def o65_13 : Oper := { dst := some 17, op := Op.load 22 (Operand.tmp 16), type := 22, pos := "reply.go:116", after := #[{ on := 12, ground := Ground.data }, { on := 11, ground := Ground.guard }], guard := some (11, false) }
def o65_14 : Oper := { dst := some 18, op := Op.call { callee := Callee.builtin Builtin.len, args := #[Operand.tmp 17], argTypes := #[22] }, type := 3, pos := "reply.go:116", after := #[{ on := 13, ground := Ground.data }, { on := 11, ground := Ground.guard }], guard := some (11, false) }
def o65_15 : Oper := { dst := some 19, op := Op.binOp BinOp.gtr 3 (Operand.tmp 18) (Operand.const (Value.int IntKind.i64 1048575)) 3, type := 4, pos := "reply.go:116", after := #[{ on := 14, ground := Ground.data }, { on := 11, ground := Ground.guard }], guard := some (11, false) }
def o65_16 : Oper := { dst := some 20, op := Op.pick (Operand.tmp 15) (Operand.const (Value.bool true)) (Operand.tmp 19), type := 4, pos := "reply.go:116", after := #[{ on := 11, ground := Ground.data }, { on := 15, ground := Ground.data }], guard := none }
def o65_17 : Oper := { dst := some 21, op := Op.move (Operand.tmp 20), type := 4, pos := "reply.go:116", after := #[{ on := 16, ground := Ground.data }, { on := 11, ground := Ground.chain }], guard := none }
def o65_18 : Oper := { dst := some 22, op := Op.fieldAddr 40 (Operand.tmp 1) 5, type := 0, pos := "reply.go:116", after := #[{ on := 17, ground := Ground.guard }], guard := some (17, false) }
def o65_19 : Oper := { dst := some 23, op := Op.load 23 (Operand.tmp 22), type := 23, pos := "reply.go:116", after := #[{ on := 18, ground := Ground.data }, { on := 17, ground := Ground.guard }], guard := some (17, false) }
def o65_20 : Oper := { dst := some 24, op := Op.call { callee := Callee.builtin Builtin.len, args := #[Operand.tmp 23], argTypes := #[23] }, type := 3, pos := "reply.go:116", after := #[{ on := 19, ground := Ground.data }, { on := 17, ground := Ground.guard }], guard := some (17, false) }
def o65_21 : Oper := { dst := some 25, op := Op.binOp BinOp.gtr 3 (Operand.tmp 24) (Operand.const (Value.int IntKind.i64 16)) 3, type := 4, pos := "reply.go:116", after := #[{ on := 20, ground := Ground.data }, { on := 17, ground := Ground.guard }], guard := some (17, false) }
def o65_22 : Oper := { dst := some 26, op := Op.pick (Operand.tmp 21) (Operand.const (Value.bool true)) (Operand.tmp 25), type := 4, pos := "reply.go:116", after := #[{ on := 17, ground := Ground.data }, { on := 21, ground := Ground.data }], guard := none }
def o65_23 : Oper := { dst := some 27, op := Op.move (Operand.tmp 26), type := 4, pos := "reply.go:116", after := #[{ on := 22, ground := Ground.data }, { on := 17, ground := Ground.chain }], guard := none }
def o65_24 : Oper := { dst := some 28, op := Op.fieldAddr 40 (Operand.tmp 1) 6, type := 0, pos := "reply.go:116", after := #[{ on := 23, ground := Ground.guard }], guard := some (23, false) }
def o65_25 : Oper := { dst := some 29, op := Op.load 29 (Operand.tmp 28), type := 29, pos := "reply.go:116", after := #[{ on := 24, ground := Ground.data }, { on := 23, ground := Ground.guard }], guard := some (23, false) }
def o65_26 : Oper := { dst := some 30, op := Op.call { callee := Callee.builtin Builtin.len, args := #[Operand.tmp 29], argTypes := #[29] }, type := 3, pos := "reply.go:116", after := #[{ on := 25, ground := Ground.data }, { on := 23, ground := Ground.guard }], guard := some (23, false) }
def o65_27 : Oper := { dst := some 31, op := Op.binOp BinOp.gtr 3 (Operand.tmp 30) (Operand.const (Value.int IntKind.i64 1048576)) 3, type := 4, pos := "reply.go:116", after := #[{ on := 26, ground := Ground.data }, { on := 23, ground := Ground.guard }], guard := some (23, false) }
def o65_28 : Oper := { dst := some 32, op := Op.pick (Operand.tmp 27) (Operand.const (Value.bool true)) (Operand.tmp 31), type := 4, pos := "reply.go:116", after := #[{ on := 23, ground := Ground.data }, { on := 27, ground := Ground.data }], guard := none }
def o65_29 : Oper := { dst := some 33, op := Op.move (Operand.tmp 32), type := 4, pos := "reply.go:116", after := #[{ on := 28, ground := Ground.data }, { on := 23, ground := Ground.chain }], guard := none }
def o65_30 : Oper := { dst := some 34, op := Op.fieldAddr 40 (Operand.tmp 1) 8, type := 0, pos := "reply.go:116", after := #[{ on := 29, ground := Ground.guard }], guard := some (29, false) }
def o65_31 : Oper := { dst := some 35, op := Op.fieldAddr 28 (Operand.tmp 34) 2, type := 0, pos := "reply.go:116", after := #[{ on := 30, ground := Ground.data }, { on := 29, ground := Ground.guard }], guard := some (29, false) }
def o65_32 : Oper := { dst := some 36, op := Op.load 26 (Operand.tmp 35), type := 26, pos := "reply.go:116", after := #[{ on := 31, ground := Ground.data }, { on := 29, ground := Ground.guard }], guard := some (29, false) }
def o65_33 : Oper := { dst := some 37, op := Op.call { callee := Callee.builtin Builtin.len, args := #[Operand.tmp 36], argTypes := #[26] }, type := 3, pos := "reply.go:116", after := #[{ on := 32, ground := Ground.data }, { on := 29, ground := Ground.guard }], guard := some (29, false) }
def o65_34 : Oper := { dst := some 38, op := Op.binOp BinOp.gtr 3 (Operand.tmp 37) (Operand.const (Value.int IntKind.i64 16)) 3, type := 4, pos := "reply.go:116", after := #[{ on := 33, ground := Ground.data }, { on := 29, ground := Ground.guard }], guard := some (29, false) }
def o65_35 : Oper := { dst := some 39, op := Op.pick (Operand.tmp 33) (Operand.const (Value.bool true)) (Operand.tmp 38), type := 4, pos := "reply.go:116", after := #[{ on := 29, ground := Ground.data }, { on := 34, ground := Ground.data }], guard := none }
def o65_36 : Oper := { dst := some 40, op := Op.move (Operand.tmp 39), type := 4, pos := "reply.go:116", after := #[{ on := 35, ground := Ground.data }, { on := 29, ground := Ground.chain }], guard := none }
def o65_37 : Oper := { dst := some 41, op := Op.load 40 (Operand.tmp 1), type := 40, pos := "reply.go:116", after := #[{ on := 36, ground := Ground.guard }], guard := some (36, false) }
def o65_38 : Oper := { dst := some 42, op := Op.call { callee := Callee.value (Operand.func 66), args := #[Operand.tmp 41], argTypes := #[40] }, type := 29, pos := "reply.go:116", after := #[{ on := 37, ground := Ground.data }, { on := 36, ground := Ground.chain }, { on := 36, ground := Ground.guard }], guard := some (36, false) }
def o65_39 : Oper := { dst := some 43, op := Op.move (Operand.tmp 3), type := 166, pos := "reply.go:116", after := #[{ on := 36, ground := Ground.guard }], guard := some (36, false) }
def o65_40 : Oper := { dst := some 44, op := Op.call { callee := Callee.value (Operand.tmp 43), args := #[Operand.const (Value.int IntKind.i64 256)], argTypes := #[3] }, type := 123, pos := "reply.go:116", after := #[{ on := 39, ground := Ground.data }, { on := 38, ground := Ground.chain }, { on := 36, ground := Ground.guard }], guard := some (36, false) }
def o65_41 : Oper := { dst := some 45, op := Op.call { callee := Callee.value (Operand.func 67), args := #[Operand.tmp 42, Operand.tmp 44], argTypes := #[29, 123] }, type := 4, pos := "reply.go:116", after := #[{ on := 38, ground := Ground.data }, { on := 40, ground := Ground.data }, { on := 40, ground := Ground.chain }, { on := 36, ground := Ground.guard }], guard := some (36, false) }
def o65_42 : Oper := { dst := some 46, op := Op.pick (Operand.tmp 40) (Operand.const (Value.bool true)) (Operand.tmp 45), type := 4, pos := "reply.go:116", after := #[{ on := 36, ground := Ground.data }, { on := 41, ground := Ground.data }], guard := none }
def o65_43 : Oper := { dst := some 2, op := Op.assign (Operand.tmp 46), type := 4, pos := "reply.go:116", after := #[{ on := 42, ground := Ground.data }, { on := 41, ground := Ground.chain }, { on := 0, ground := Ground.phase }, { on := 1, ground := Ground.phase }, { on := 2, ground := Ground.phase }, { on := 3, ground := Ground.phase }, { on := 4, ground := Ground.phase }, { on := 5, ground := Ground.phase }, { on := 6, ground := Ground.phase }, { on := 7, ground := Ground.phase }, { on := 8, ground := Ground.phase }, { on := 9, ground := Ground.phase }, { on := 10, ground := Ground.phase }, { on := 11, ground := Ground.phase }, { on := 12, ground := Ground.phase }, { on := 13, ground := Ground.phase }, { on := 14, ground := Ground.phase }, { on := 15, ground := Ground.phase }, { on := 16, ground := Ground.phase }, { on := 17, ground := Ground.phase }, { on := 18, ground := Ground.phase }, { on := 19, ground := Ground.phase }, { on := 20, ground := Ground.phase }, { on := 21, ground := Ground.phase }, { on := 22, ground := Ground.phase }, { on := 23, ground := Ground.phase }, { on := 24, ground := Ground.phase }, { on := 25, ground := Ground.phase }, { on := 26, ground := Ground.phase }, { on := 27, ground := Ground.phase }, { on := 28, ground := Ground.phase }, { on := 29, ground := Ground.phase }, { on := 30, ground := Ground.phase }, { on := 31, ground := Ground.phase }, { on := 32, ground := Ground.phase }, { on := 33, ground := Ground.phase }, { on := 34, ground := Ground.phase }, { on := 35, ground := Ground.phase }, { on := 36, ground := Ground.phase }, { on := 37, ground := Ground.phase }, { on := 38, ground := Ground.phase }, { on := 39, ground := Ground.phase }, { on := 40, ground := Ground.phase }, { on := 41, ground := Ground.phase }, { on := 42, ground := Ground.phase }], guard := none }
theorem pgreat12_any (f : ResF) (hf : f.Ok) (n : Nat) (A : Nat → Prop) (cs : List Value) (w : World) (h : ResA A w f n cs) (hA : ∀ b, A b → b < w.heap.size) :
  Calls Tryz.prog 65 #[.agg cs.toArray] w fun e w' => e = .returned (.bool (great12 f)) ∧ Below w.heap.size w w' := by
 have hlen := h.len
 have hT := fun (W : World) (hb : Below (w.alloc (.cells cs.toArray 40)).heap.size (w.alloc (.cells cs.toArray 40)) W) => ptexts_any f hf n A cs W (h.below hA ((Below.refl w.heap.size w).alloc (Nat.le_refl _) (.cells cs.toArray 40) |>.trans (hb.mono (by simp)))) (fun b hb' => Nat.lt_of_lt_of_le (Nat.lt_trans (hA b hb') (by simp : w.heap.size < (w.alloc (.cells cs.toArray 40)).heap.size)) hb.size)
 have hb0 : Below w.heap.size w (w.alloc (.cells cs.toArray 40)) := (Below.refl w.heap.size w).alloc (Nat.le_refl _) _
 have hr0 : (w.alloc (.cells cs.toArray 40)).rangeAt w.heap.size 0 cs := st_range (heap_alloc_new w _)
 have hlt0 : w.heap.size < (w.alloc (.cells cs.toArray 40)).heap.size := by simp
 obtain ⟨vd, va, vn, vi, vs, hcs, h1, h2, h3, h4, rows, h5, hn5⟩ := h.ex
 obtain ⟨a1, c1, rfl⟩ := h1.len'
 obtain ⟨a2, c2, rfl⟩ := h2.len'
 obtain ⟨a3, c3, rfl⟩ := h3.len'
 obtain ⟨a4, c4, rfl⟩ := h4.len'
 obtain ⟨n1, hn1⟩ : ∃ n, f.data.length = n := ⟨_, rfl⟩
 obtain ⟨n2, hn2⟩ : ∃ n, f.acl.length = n := ⟨_, rfl⟩
 obtain ⟨n3, hn3⟩ : ∃ n, f.names.length = n := ⟨_, rfl⟩
 obtain ⟨n4, hn4⟩ : ∃ n, f.ids.length = n := ⟨_, rfl⟩
 rw [List.length_map, hn1] at h1 hcs
 rw [List.length_map, hn2] at h2 hcs
 rw [List.length_map, hn3] at h3 hcs
 rw [List.length_map, hn4] at h4 hcs
 have m2 : n2 ≤ 1048576 := by rw [← hn2]; exact hf.acl
 have m3 : n3 ≤ 1048576 := by rw [← hn3]; exact hf.names
 have m4 : n4 ≤ 1048576 := by rw [← hn4]; exact hf.ids
 have x2 : (w.alloc (.cells cs.toArray 40)).cell? ⟨w.heap.size, 2, none⟩ = some (.string f.path) := hr0 2 _ (by rw [hcs]; rfl)
 have x14 : (w.alloc (.cells cs.toArray 40)).cell? ⟨w.heap.size, 14, none⟩ = some (.slice a1 n1 c1) := hr0 14 _ (by rw [hcs]; rfl)
 have x15 : (w.alloc (.cells cs.toArray 40)).cell? ⟨w.heap.size, 15, none⟩ = some (.slice a2 n2 c2) := hr0 15 _ (by rw [hcs]; rfl)
 have x16 : (w.alloc (.cells cs.toArray 40)).cell? ⟨w.heap.size, 16, none⟩ = some (.slice a3 n3 c3) := hr0 16 _ (by rw [hcs]; rfl)
 have x20 : (w.alloc (.cells cs.toArray 40)).cell? ⟨w.heap.size, 20, none⟩ = some (.slice a4 n4 c4) := hr0 20 _ (by rw [hcs]; rfl)
 have hNA := fun (W : World) (hb : Below (w.alloc (.cells cs.toArray 40)).heap.size (w.alloc (.cells cs.toArray 40)) W) (hm : W.cell? ⟨w.heap.size + 1, 0, none⟩ = some (.int .i64 4096)) (hl : w.heap.size + 1 < W.heap.size) =>
  containsStrB_any 111 #[.pointer (some ⟨w.heap.size + 1, 0, none⟩)] (enters_of Tryz.func111 (by kernel_rfl) rfl) longN f.names A (.slice a3 n3 c3) W (h3.below hA (hb0.trans (hb.mono hb0.size))) (fun b hb' => Nat.lt_of_lt_of_le (Nat.lt_trans (hA b hb') hlt0) hb.size) (by rw [hn3]; omega)
   (fun W' x hx hb' => (plongS_any x _ 4096 W' (by have := hf.names1 x hx; omega) ((hb'.cell (p := ⟨w.heap.size + 1, 0, none⟩) hl).trans hm)).mono (by rintro e w' ⟨rfl, rfl⟩; exact ⟨rfl, Below.refl _ _⟩))
 have hTX := fun (W : World) (X : Nat) (tv : Value) (hb : Below (w.alloc (.cells cs.toArray 40)).heap.size (w.alloc (.cells cs.toArray 40)) W) (hm : W.cell? ⟨X, 0, none⟩ = some (.int .i64 256)) (hl : X < W.heap.size) (ho : W.ownsRow (w.alloc (.cells cs.toArray 40)).heap.size 9 1 tv (2 * (f.acl.length + f.ids.length)) ((textsA f.acl ++ textsI f.ids).map Value.string)) =>
  containsStrB_any 111 #[.pointer (some ⟨X, 0, none⟩)] (enters_of Tryz.func111 (by kernel_rfl) rfl) long256 (textsA f.acl ++ textsI f.ids) _ tv W (slr_texts ho (texts_len f)) (fun b hb' => hb'.2) (by rw [texts_len, hn2, hn4]; omega)
   (fun W' x hx hb' => (plongS_any x _ 256 W' (by have := texts_mem f hf x hx; omega) ((hb'.cell (p := ⟨X, 0, none⟩) hl).trans hm)).mono (by rintro e w' ⟨rfl, rfl⟩; exact ⟨rfl, Below.refl _ _⟩))
 have hi : (Tryz.prog.info? 40).map (·.size) = some cs.length := by rw [hlen]; kernel_rfl
 have HI := Lib.hid hi
 obtain ⟨R, hR⟩ : ∃ R, great12 f = R := ⟨_, rfl⟩
 rw [hR]
 rw [great_order, hn1, hn2, hn3, hn4] at hR
 rw [decide_eq_false (show ¬ 1048576 < n3 by omega), Bool.false_or] at hR
 generalize f.names.any longN = NA at hNA hR
 generalize (textsA f.acl ++ textsI f.ids).any long256 = TB at hTX hR
 have z3 : ¬ (1048576 : Int) < n3 := by omega
 clear h h1 h2 h3 h4 h5 hn5 hcs hi hlen
 go_enter Tryz.func65, Tryz.ntmps65
 go_wp2
 refine wp_region_held_lit (S := fun W => Below (w.alloc (.cells cs.toArray 40)).heap.size (w.alloc (.cells cs.toArray 40)) W) 44 #[false, false, false, false, false, false, false, false, false, false, false, false, false, false, false, false, false, false, false, false, false, false, false, false, false, false, false, false, false, false, false, false, false, false, false, false, false, false, false, false, false, false, false, false] rfl rfl (by kernel_rfl) ((Below.refl _ _).drew) (fun hHeld => ?_)
 refine tkl 0 o65_0 (.pointer (some ⟨w.heap.size, 2, none⟩)) (fun wz hSw => by unfold o65_0; go_simp) hHeld ?_; simp only [o65_0, Act.put, List.setIfInBounds_toArray, List.set]
 refine tkl 1 o65_1 (.string f.path) (fun wz hSw => by unfold o65_1; have q := (hSw.cell (p := ⟨w.heap.size, 2, none⟩) hlt0).trans x2; go_simp) hHeld ?_; simp only [o65_1, Act.put, List.setIfInBounds_toArray, List.set]
 refine tkl 2 o65_2 (.int .i64 f.path.size) (fun wz hSw => by unfold o65_2; go_simp) hHeld ?_; simp only [o65_2, Act.put, List.setIfInBounds_toArray, List.set]
 by_cases k1 : 4096 < f.path.size
 ·rw [decide_eq_true k1, Bool.true_or] at hR
  have k1z : (4096 : Int) < f.path.size := by omega
  subst hR
  refine tkl 3 o65_3 (.bool true) (fun wz hSw => by unfold o65_3; go_simp) hHeld ?_; simp only [o65_3, Act.put, List.setIfInBounds_toArray, List.set]
  refine tkr2 [(4, 8, some true)] 39 hHeld ?_; simp only [runL2, runA2, valO2, Act.put, List.setIfInBounds_toArray, List.set]
  refine tkr2 [(5, 9, none), (6, 10, none), (7, 11, none), (8, 12, none), (9, 13, none), (10, 14, some true), (11, 15, some true), (12, 16, none), (13, 17, none), (14, 18, none), (15, 19, none), (16, 20, some true), (17, 21, some true), (18, 22, none), (19, 23, none), (20, 24, none), (21, 25, none), (22, 26, some true), (23, 27, some true), (24, 28, none), (25, 29, none), (26, 30, none), (27, 31, none), (28, 32, some true), (29, 33, some true), (30, 34, none), (31, 35, none), (32, 36, none), (33, 37, none), (34, 38, none), (35, 39, some true), (36, 40, some true), (37, 41, none), (38, 42, none), (39, 43, none), (40, 44, none), (41, 45, none), (42, 46, some true), (43, 2, some true)] 0 hHeld ?_; simp only [runL2, runA2, valO2, Act.put, List.setIfInBounds_toArray, List.set]; refine wpAnyH_done (by kernel_rfl) ?_ _; have hfin := hb0.trans (hHeld.mono hb0.size); clear hHeld; go_wp2; go_ret; exact ⟨rfl, hfin⟩
 have k1z : ¬ (4096 : Int) < f.path.size := by omega
 rw [decide_eq_false k1, Bool.false_or] at hR
 refine tkl 3 o65_3 (.bool false) (fun wz hSw => by unfold o65_3; go_simp) hHeld ?_; simp only [o65_3, Act.put, List.setIfInBounds_toArray, List.set]
 refine tkr2 [(4, 8, some false)] 39 hHeld ?_; simp only [runL2, runA2, valO2, Act.put, List.setIfInBounds_toArray, List.set]
 refine tkl 5 o65_5 (.pointer (some ⟨w.heap.size, 16, none⟩)) (fun wz hSw => by unfold o65_5; go_simp) hHeld ?_; simp only [o65_5, Act.put, List.setIfInBounds_toArray, List.set]
 refine tkl 6 o65_6 (.slice a3 n3 c3) (fun wz hSw => by unfold o65_6; have q := (hSw.cell (p := ⟨w.heap.size, 16, none⟩) hlt0).trans x16; go_simp) hHeld ?_; simp only [o65_6, Act.put, List.setIfInBounds_toArray, List.set]
 refine tkl 7 o65_7 (.func (.func 110) #[] #[]) (fun wz hSw => by unfold o65_7; go_simp) hHeld ?_; simp only [o65_7, Act.put, List.setIfInBounds_toArray, List.set]
 refine wpAnyH_ready (rs := [8]) (by kernel_rfl) (by simp) ?_
 refine AllReadyH.cons (o := o65_8) rfl (fun K hK => ?_) AllReadyH.nil
 unfold o65_8; go_simp
 refine (plongMk_any 4096 _).mono ?_
 rintro e w1 ⟨rfl, hw1⟩
 have hb1 : Below (w.alloc (.cells cs.toArray 40)).heap.size (w.alloc (.cells cs.toArray 40)) w1 := by rw [hw1]; exact ((Below.refl (w.alloc (.cells cs.toArray 40)).heap.size (w.alloc (.cells cs.toArray 40))).drew).alloc (Nat.le_refl _) _
 have m1 : w1.cell? ⟨w.heap.size + 1, 0, none⟩ = some (.int .i64 4096) := by rw [hw1]; have hq := heap_alloc_new (w.alloc (.cells cs.toArray 40)).drew (.cells #[.int .i64 4096] 3); rw [show (w.alloc (.cells cs.toArray 40)).drew.heap.size = w.heap.size + 1 by simp] at hq; exact st_at hq rfl
 have l1 : w.heap.size + 1 < w1.heap.size := by rw [hw1]; simp
 clear hw1
 refine hK.out _ _ hb1 (fun hHeld => ?_)
 clear hK K
 refine wpAnyH_ready (rs := [9]) (by kernel_rfl) (by simp) ?_
 refine AllReadyH.cons (o := o65_9) rfl (fun K hK => ?_) AllReadyH.nil
 unfold o65_9; go_simp
 refine (hNA w1 hb1 m1 l1).mono ?_
 rintro e w2 ⟨rfl, hb2⟩
 replace hb2 := hb1.trans (hb2.mono hb1.size)
 clear m1 l1 hb1 hHeld
 refine hK.out _ _ hb2 (fun hHeld => ?_)
 clear hK K
 cases NA
 rotate_left
 ·rw [Bool.true_or] at hR
  subst hR
  refine tkr2 [(10, 14, some true), (11, 15, some true)] 32 hHeld ?_; simp only [runL2, runA2, valO2, Act.put, List.setIfInBounds_toArray, List.set]
  refine tkr2 [(12, 16, none), (13, 17, none), (14, 18, none), (15, 19, none), (16, 20, some true), (17, 21, some true), (18, 22, none), (19, 23, none), (20, 24, none), (21, 25, none), (22, 26, some true), (23, 27, some true), (24, 28, none), (25, 29, none), (26, 30, none), (27, 31, none), (28, 32, some true), (29, 33, some true), (30, 34, none), (31, 35, none), (32, 36, none), (33, 37, none), (34, 38, none), (35, 39, some true), (36, 40, some true), (37, 41, none), (38, 42, none), (39, 43, none), (40, 44, none), (41, 45, none), (42, 46, some true), (43, 2, some true)] 0 hHeld ?_; simp only [runL2, runA2, valO2, Act.put, List.setIfInBounds_toArray, List.set]; refine wpAnyH_done (by kernel_rfl) ?_ _; have hfin := hb0.trans (hHeld.mono hb0.size); clear hHeld; go_wp2; go_ret; exact ⟨rfl, hfin⟩
 rw [Bool.false_or] at hR
 refine tkr2 [(10, 14, some false), (11, 15, some false)] 32 hHeld ?_; simp only [runL2, runA2, valO2, Act.put, List.setIfInBounds_toArray, List.set]
 refine tkl 12 o65_12 (.pointer (some ⟨w.heap.size, 14, none⟩)) (fun wz hSw => by unfold o65_12; go_simp) hHeld ?_; simp only [o65_12, Act.put, List.setIfInBounds_toArray, List.set]
 refine tkl 13 o65_13 (.slice a1 n1 c1) (fun wz hSw => by unfold o65_13; have q := (hSw.cell (p := ⟨w.heap.size, 14, none⟩) hlt0).trans x14; go_simp) hHeld ?_; simp only [o65_13, Act.put, List.setIfInBounds_toArray, List.set]
 refine tkl 14 o65_14 (.int .i64 n1) (fun wz hSw => by unfold o65_14; go_simp) hHeld ?_; simp only [o65_14, Act.put, List.setIfInBounds_toArray, List.set]
 by_cases k3 : 1048575 < n1
 ·rw [decide_eq_true k3, Bool.true_or] at hR
  have k3z : (1048575 : Int) < n1 := by omega
  subst hR
  refine tkl 15 o65_15 (.bool true) (fun wz hSw => by unfold o65_15; go_simp) hHeld ?_; simp only [o65_15, Act.put, List.setIfInBounds_toArray, List.set]
  refine tkr2 [(16, 20, some true), (17, 21, some true)] 26 hHeld ?_; simp only [runL2, runA2, valO2, Act.put, List.setIfInBounds_toArray, List.set]
  refine tkr2 [(18, 22, none), (19, 23, none), (20, 24, none), (21, 25, none), (22, 26, some true), (23, 27, some true), (24, 28, none), (25, 29, none), (26, 30, none), (27, 31, none), (28, 32, some true), (29, 33, some true), (30, 34, none), (31, 35, none), (32, 36, none), (33, 37, none), (34, 38, none), (35, 39, some true), (36, 40, some true), (37, 41, none), (38, 42, none), (39, 43, none), (40, 44, none), (41, 45, none), (42, 46, some true), (43, 2, some true)] 0 hHeld ?_; simp only [runL2, runA2, valO2, Act.put, List.setIfInBounds_toArray, List.set]; refine wpAnyH_done (by kernel_rfl) ?_ _; have hfin := hb0.trans (hHeld.mono hb0.size); clear hHeld; go_wp2; go_ret; exact ⟨rfl, hfin⟩
 have k3z : ¬ (1048575 : Int) < n1 := by omega
 rw [decide_eq_false k3, Bool.false_or] at hR
 refine tkl 15 o65_15 (.bool false) (fun wz hSw => by unfold o65_15; go_simp) hHeld ?_; simp only [o65_15, Act.put, List.setIfInBounds_toArray, List.set]
 refine tkr2 [(16, 20, some false), (17, 21, some false)] 26 hHeld ?_; simp only [runL2, runA2, valO2, Act.put, List.setIfInBounds_toArray, List.set]
 refine tkl 18 o65_18 (.pointer (some ⟨w.heap.size, 15, none⟩)) (fun wz hSw => by unfold o65_18; go_simp) hHeld ?_; simp only [o65_18, Act.put, List.setIfInBounds_toArray, List.set]
 refine tkl 19 o65_19 (.slice a2 n2 c2) (fun wz hSw => by unfold o65_19; have q := (hSw.cell (p := ⟨w.heap.size, 15, none⟩) hlt0).trans x15; go_simp) hHeld ?_; simp only [o65_19, Act.put, List.setIfInBounds_toArray, List.set]
 refine tkl 20 o65_20 (.int .i64 n2) (fun wz hSw => by unfold o65_20; go_simp) hHeld ?_; simp only [o65_20, Act.put, List.setIfInBounds_toArray, List.set]
 by_cases k4 : 16 < n2
 ·rw [decide_eq_true k4, Bool.true_or] at hR
  have k4z : (16 : Int) < n2 := by omega
  subst hR
  refine tkl 21 o65_21 (.bool true) (fun wz hSw => by unfold o65_21; go_simp) hHeld ?_; simp only [o65_21, Act.put, List.setIfInBounds_toArray, List.set]
  refine tkr2 [(22, 26, some true), (23, 27, some true)] 20 hHeld ?_; simp only [runL2, runA2, valO2, Act.put, List.setIfInBounds_toArray, List.set]
  refine tkr2 [(24, 28, none), (25, 29, none), (26, 30, none), (27, 31, none), (28, 32, some true), (29, 33, some true), (30, 34, none), (31, 35, none), (32, 36, none), (33, 37, none), (34, 38, none), (35, 39, some true), (36, 40, some true), (37, 41, none), (38, 42, none), (39, 43, none), (40, 44, none), (41, 45, none), (42, 46, some true), (43, 2, some true)] 0 hHeld ?_; simp only [runL2, runA2, valO2, Act.put, List.setIfInBounds_toArray, List.set]; refine wpAnyH_done (by kernel_rfl) ?_ _; have hfin := hb0.trans (hHeld.mono hb0.size); clear hHeld; go_wp2; go_ret; exact ⟨rfl, hfin⟩
 have k4z : ¬ (16 : Int) < n2 := by omega
 rw [decide_eq_false k4, Bool.false_or] at hR
 refine tkl 21 o65_21 (.bool false) (fun wz hSw => by unfold o65_21; go_simp) hHeld ?_; simp only [o65_21, Act.put, List.setIfInBounds_toArray, List.set]
 refine tkr2 [(22, 26, some false), (23, 27, some false)] 20 hHeld ?_; simp only [runL2, runA2, valO2, Act.put, List.setIfInBounds_toArray, List.set]
 refine tkl 24 o65_24 (.pointer (some ⟨w.heap.size, 16, none⟩)) (fun wz hSw => by unfold o65_24; go_simp) hHeld ?_; simp only [o65_24, Act.put, List.setIfInBounds_toArray, List.set]
 refine tkl 25 o65_25 (.slice a3 n3 c3) (fun wz hSw => by unfold o65_25; have q := (hSw.cell (p := ⟨w.heap.size, 16, none⟩) hlt0).trans x16; go_simp) hHeld ?_; simp only [o65_25, Act.put, List.setIfInBounds_toArray, List.set]
 refine tkl 26 o65_26 (.int .i64 n3) (fun wz hSw => by unfold o65_26; go_simp) hHeld ?_; simp only [o65_26, Act.put, List.setIfInBounds_toArray, List.set]
 refine tkl 27 o65_27 (.bool false) (fun wz hSw => by unfold o65_27; go_simp) hHeld ?_; simp only [o65_27, Act.put, List.setIfInBounds_toArray, List.set]
 refine tkr2 [(28, 32, some false), (29, 33, some false)] 14 hHeld ?_; simp only [runL2, runA2, valO2, Act.put, List.setIfInBounds_toArray, List.set]
 refine tkl 30 o65_30 (.pointer (some ⟨w.heap.size, 18, none⟩)) (fun wz hSw => by unfold o65_30; go_simp) hHeld ?_; simp only [o65_30, Act.put, List.setIfInBounds_toArray, List.set]
 refine tkl 31 o65_31 (.pointer (some ⟨w.heap.size, 20, none⟩)) (fun wz hSw => by unfold o65_31; go_simp) hHeld ?_; simp only [o65_31, Act.put, List.setIfInBounds_toArray, List.set]
 refine tkl 32 o65_32 (.slice a4 n4 c4) (fun wz hSw => by unfold o65_32; have q := (hSw.cell (p := ⟨w.heap.size, 20, none⟩) hlt0).trans x20; go_simp) hHeld ?_; simp only [o65_32, Act.put, List.setIfInBounds_toArray, List.set]
 refine tkl 33 o65_33 (.int .i64 n4) (fun wz hSw => by unfold o65_33; go_simp) hHeld ?_; simp only [o65_33, Act.put, List.setIfInBounds_toArray, List.set]
 by_cases k5 : 16 < n4
 ·rw [decide_eq_true k5, Bool.true_or] at hR
  have k5z : (16 : Int) < n4 := by omega
  subst hR
  refine tkl 34 o65_34 (.bool true) (fun wz hSw => by unfold o65_34; go_simp) hHeld ?_; simp only [o65_34, Act.put, List.setIfInBounds_toArray, List.set]
  refine tkr2 [(35, 39, some true), (36, 40, some true)] 7 hHeld ?_; simp only [runL2, runA2, valO2, Act.put, List.setIfInBounds_toArray, List.set]
  refine tkr2 [(37, 41, none), (38, 42, none), (39, 43, none), (40, 44, none), (41, 45, none), (42, 46, some true), (43, 2, some true)] 0 hHeld ?_; simp only [runL2, runA2, valO2, Act.put, List.setIfInBounds_toArray, List.set]; refine wpAnyH_done (by kernel_rfl) ?_ _; have hfin := hb0.trans (hHeld.mono hb0.size); clear hHeld; go_wp2; go_ret; exact ⟨rfl, hfin⟩
 have k5z : ¬ (16 : Int) < n4 := by omega
 rw [decide_eq_false k5, Bool.false_or] at hR
 refine tkl 34 o65_34 (.bool false) (fun wz hSw => by unfold o65_34; go_simp) hHeld ?_; simp only [o65_34, Act.put, List.setIfInBounds_toArray, List.set]
 subst hR
 refine tkr2 [(35, 39, some false), (36, 40, some false)] 7 hHeld ?_; simp only [runL2, runA2, valO2, Act.put, List.setIfInBounds_toArray, List.set]
 refine wpAnyH_take (i := 37) (oi := o65_37) (v := .agg cs.toArray) rfl (by kernel_rfl) (by kernel_rfl) (by kernel_rfl) (fun _ _ _ h => h) (yieldsIf_load_mid (by rfl) 40 (.tmp 1) rfl w.heap.size 0 rfl cs _ (fun wz hSw => range_below hr0 hSw hlt0) Tryz.underlying40 rfl HI.out) hHeld ?_; simp only [o65_37, Act.put, List.setIfInBounds_toArray, List.set]
 refine tkl 39 o65_39 (.func (.func 110) #[] #[]) (fun wz hSw => by unfold o65_39; go_simp) hHeld ?_; simp only [o65_39, Act.put, List.setIfInBounds_toArray, List.set]
 have hb3 := hHeld
 refine wpAnyH_ready (rs := [38]) (by kernel_rfl) (by simp) ?_
 refine AllReadyH.cons (o := o65_38) rfl (fun K hK => ?_) AllReadyH.nil
 unfold o65_38; go_simp
 refine (hT _ hb3).mono ?_
 rintro e w4 ⟨tv, rfl, hb4, hown⟩
 replace hb4 := hb3.trans (hb4.mono hb3.size)
 have ht4 := owns_base hown hb3.size
 clear hb3 hown hHeld
 refine hK.out _ _ hb4 (fun hHeld => ?_)
 clear hK K
 refine wpAnyH_ready (rs := [40]) (by kernel_rfl) (by simp) ?_
 refine AllReadyH.cons (o := o65_40) rfl (fun K hK => ?_) AllReadyH.nil
 unfold o65_40; go_simp
 refine (plongMk_any 256 _).mono ?_
 rintro e w5 ⟨rfl, hw5⟩
 have hb5 : Below (w.alloc (.cells cs.toArray 40)).heap.size (w.alloc (.cells cs.toArray 40)) w5 := by rw [hw5]; exact hb4.alloc hb4.size _
 have m5 : w5.cell? ⟨w4.heap.size, 0, none⟩ = some (.int .i64 256) := by rw [hw5]; exact st_at (heap_alloc_new w4 _) rfl
 have l5 : w4.heap.size < w5.heap.size := by rw [hw5]; simp
 have hown5 : w5.ownsRow (w.alloc (.cells cs.toArray 40)).heap.size 9 1 tv (2 * (f.acl.length + f.ids.length)) ((textsA f.acl ++ textsI f.ids).map Value.string) := by rw [hw5]; exact ht4.alloc _
 clear hw5 ht4 hHeld
 refine hK.out _ _ hb5 (fun hHeld => ?_)
 clear hK K
 refine wpAnyH_ready (rs := [41]) (by kernel_rfl) (by simp) ?_
 refine AllReadyH.cons (o := o65_41) rfl (fun K hK => ?_) AllReadyH.nil
 unfold o65_41; go_simp
 refine (hTX _ _ tv hb5 m5 l5 hown5).mono ?_
 rintro e w6 ⟨rfl, hb6⟩
 replace hb6 := hb5.trans (hb6.mono hb5.size)
 clear m5 l5 hown5 hb5 hHeld
 refine hK.out _ _ hb6 (fun hHeld => ?_)
 clear hK K
 refine tkl 42 o65_42 (.bool TB) (fun wz hSw => by unfold o65_42; go_simp) hHeld ?_; simp only [o65_42, Act.put, List.setIfInBounds_toArray, List.set]
 refine tkl 43 o65_43 (.bool TB) (fun wz hSw => by unfold o65_43; go_simp) hHeld ?_; simp only [o65_43, Act.put, List.setIfInBounds_toArray, List.set]
 refine wpAnyH_done (by kernel_rfl) ?_ _
 have hfin := hb0.trans (hHeld.mono hb0.size)
 clear hHeld
 go_wp2
 go_ret
 exact ⟨rfl, hfin⟩
theorem codes_cases (t : Int) : (codesP t = [1] ∧ fields12 t = [112]) ∨ (codesP t = [1, 2] ∧ fields12 t = [112, 116]) ∨ (codesP t = [2] ∧ fields12 t = [116]) ∨ (codesP t = [3, 2] ∧ fields12 t = [100, 116]) ∨ (codesP t = [4, 2] ∧ fields12 t = [97, 116]) ∨ (codesP t = [5] ∧ fields12 t = [110]) ∨ (codesP t = [5, 2] ∧ fields12 t = [110, 116]) ∨ (codesP t = [6] ∧ fields12 t = [99]) ∨ (codesP t = [7] ∧ fields12 t = [105]) ∨ (codesP t = [8] ∧ fields12 t = [109]) ∨ (codesP t = [] ∧ (fields12 t = [101] ∨ fields12 t = [] ∨ fields12 t = [63])) := by
 unfold codesP fields12
 by_cases q1 : t = 1 ∨ t = 9
 ·rw [if_pos q1, if_pos q1]; simp
 rw [if_neg q1, if_neg q1]
 by_cases q2 : t = 15 ∨ t = 19 ∨ t = 21
 ·rw [if_pos q2, if_pos q2]; simp
 rw [if_neg q2, if_neg q2]
 by_cases q3 : t = 3 ∨ t = 5 ∨ t = 7
 ·rw [if_pos q3, if_pos q3]; simp
 rw [if_neg q3, if_neg q3]
 by_cases q4 : t = 4
 ·rw [if_pos q4, if_pos q4]; simp
 rw [if_neg q4, if_neg q4]
 by_cases q5 : t = 6
 ·rw [if_pos q5, if_pos q5]; simp
 rw [if_neg q5, if_neg q5]
 by_cases q6 : t = 8 ∨ t = 103
 ·rw [if_pos q6, if_pos q6]; simp
 rw [if_neg q6, if_neg q6]
 by_cases q7 : t = 12
 ·rw [if_pos q7, if_pos q7]; simp
 rw [if_neg q7, if_neg q7]
 by_cases q8 : t = 104
 ·rw [if_pos q8, if_pos q8]; simp
 rw [if_neg q8, if_neg q8]
 by_cases q9 : t = -10 ∨ t = 107
 ·rw [if_pos q9, if_pos q9]; simp
 rw [if_neg q9, if_neg q9]
 by_cases q10 : t = 14 ∨ t = 22
 ·rw [if_pos q10, if_pos q10]; simp
 rw [if_neg q10, if_neg q10]
 by_cases q11 : t = -1
 ·rw [if_pos q11]; simp
 rw [if_neg q11]
 by_cases q12 : t = 2 ∨ t = 13 ∨ t = 11 ∨ t = 106 ∨ t = 120 ∨ t = 121 ∨ t = -11 ∨ t = 20 ∨ t = 18 ∨ t = 101
 ·rw [if_pos q12]; simp
 rw [if_neg q12]; simp
theorem codesP_in (t : Int) : (∀ c ∈ codesP t, 1 ≤ c ∧ c ≤ 8) ∧ (codesP t).length ≤ 8 := by
 rcases codes_cases t with h | h | h | h | h | h | h | h | h | h | h <;> rw [h.1] <;> decide
theorem pos_not (n : Nat) : decide (0 < n) = !decide (n = 0) := by cases n <;> simp
def LeftP (f : ResF) (n : Nat) (cs : List Value) : Prop := ∃ (f' : ResF) (a1 a2 a3 a4 a5 : Option Addr) (n1 n2 n3 n4 n5 c1 c2 c3 c4 c5 : Nat),
 wipes (codesP f.type) (cs.set 1 (.int .i32 0)) = f'.cells (.slice a1 n1 c1) (.slice a2 n2 c2) (.slice a3 n3 c3) (.slice a4 n4 c4) (.slice a5 n5 c5) ∧ emptyD f' n1 n2 n3 n4 n5 = !spare12 f n
theorem left_law (f : ResF) (n : Nat) (cs : List Value) (a1 a2 a3 a4 a5 : Option Addr) (c1 c2 c3 c4 c5 : Nat)
  (h : cs = f.cells (.slice a1 f.data.length c1) (.slice a2 f.acl.length c2) (.slice a3 f.names.length c3) (.slice a4 f.ids.length c4) (.slice a5 n c5)) : LeftP f n cs := by
 have key : ∀ (f' : ResF) (a1 a2 a3 a4 a5 : Option Addr) (n1 n2 n3 n4 n5 c1 c2 c3 c4 c5 : Nat),
   wipes (codesP f.type) (cs.set 1 (.int .i32 0)) = f'.cells (.slice a1 n1 c1) (.slice a2 n2 c2) (.slice a3 n3 c3) (.slice a4 n4 c4) (.slice a5 n5 c5) → emptyD f' n1 n2 n3 n4 n5 = !spare12 f n → LeftP f n cs :=
  fun f' a1 a2 a3 a4 a5 n1 n2 n3 n4 n5 c1 c2 c3 c4 c5 h1 h2 => ⟨f', a1, a2, a3, a4, a5, n1, n2, n3, n4, n5, c1, c2, c3, c4, c5, h1, h2⟩
 have fin : ∀ (h1 h2 h3 h4 h5 h6 h7 h8 : Bool), has12 f.type 112 = h1 → has12 f.type 116 = h2 → has12 f.type 100 = h3 → has12 f.type 97 = h4 → has12 f.type 110 = h5 → has12 f.type 99 = h6 → has12 f.type 105 = h7 → has12 f.type 109 = h8 →
   (!spare12 f n) = ((h1 || f.path.toList.isEmpty) && ((h2 || eqStatD f.stat StatD.zero) && ((h3 || decide (f.data.length = 0)) && ((h4 || decide (f.acl.length = 0)) && ((h5 || decide (f.names.length = 0)) && ((h6 || f.count == 0) && ((h7 || f.sid == 0) && ((h7 || f.timeout == 0) && ((h7 || decide (f.ids.length = 0)) && (h8 || decide (n = 0))))))))))) := by
  intro h1 h2 h3 h4 h5 h6 h7 h8 e1 e2 e3 e4 e5 e6 e7 e8
  unfold spare12 sessB
  rw [e1, e2, e3, e4, e5, e6, e7, e8]
  simp only [pos_not, bne, Bool.not_or, Bool.not_and, Bool.not_not]
  cases h7 <;> simp only [Bool.true_or, Bool.false_or, Bool.true_and, Bool.and_assoc]
 subst h
 rcases codes_cases f.type with ⟨h, g⟩ | ⟨h, g⟩ | ⟨h, g⟩ | ⟨h, g⟩ | ⟨h, g⟩ | ⟨h, g⟩ | ⟨h, g⟩ | ⟨h, g⟩ | ⟨h, g⟩ | ⟨h, g⟩ | ⟨h, g⟩
 ·refine key { f with code := 0, path := ⟨#[]⟩ } a1 a2 a3 a4 a5 _ _ _ _ _ c1 c2 c3 c4 c5 (by rw [h]; rfl) ?_
  rw [fin true false false false false false false false] <;> first | (unfold has12; rw [g]; rfl) | skip
  unfold emptyD ResF.stat
  simp
 ·refine key { f with code := 0, path := ⟨#[]⟩, czxid := 0, mzxid := 0, ctime := 0, mtime := 0, version := 0, cversion := 0, aversion := 0, owner := 0, dlen := 0, nkids := 0, pzxid := 0 } a1 a2 a3 a4 a5 _ _ _ _ _ c1 c2 c3 c4 c5 (by rw [h]; rfl) ?_
  rw [fin true true false false false false false false] <;> first | (unfold has12; rw [g]; rfl) | skip
  unfold emptyD ResF.stat
  simp [eqStatD, StatD.zero]
 ·refine key { f with code := 0, czxid := 0, mzxid := 0, ctime := 0, mtime := 0, version := 0, cversion := 0, aversion := 0, owner := 0, dlen := 0, nkids := 0, pzxid := 0 } a1 a2 a3 a4 a5 _ _ _ _ _ c1 c2 c3 c4 c5 (by rw [h]; rfl) ?_
  rw [fin false true false false false false false false] <;> first | (unfold has12; rw [g]; rfl) | skip
  unfold emptyD ResF.stat
  simp [eqStatD, StatD.zero]
 ·refine key { f with code := 0, czxid := 0, mzxid := 0, ctime := 0, mtime := 0, version := 0, cversion := 0, aversion := 0, owner := 0, dlen := 0, nkids := 0, pzxid := 0 } none a2 a3 a4 a5 0 _ _ _ _ 0 c2 c3 c4 c5 (by rw [h]; rfl) ?_
  rw [fin false true true false false false false false] <;> first | (unfold has12; rw [g]; rfl) | skip
  unfold emptyD ResF.stat
  simp [eqStatD, StatD.zero]
 ·refine key { f with code := 0, czxid := 0, mzxid := 0, ctime := 0, mtime := 0, version := 0, cversion := 0, aversion := 0, owner := 0, dlen := 0, nkids := 0, pzxid := 0 } a1 none a3 a4 a5 _ 0 _ _ _ c1 0 c3 c4 c5 (by rw [h]; rfl) ?_
  rw [fin false true false true false false false false] <;> first | (unfold has12; rw [g]; rfl) | skip
  unfold emptyD ResF.stat
  simp [eqStatD, StatD.zero]
 ·refine key { f with code := 0 } a1 a2 none a4 a5 _ _ 0 _ _ c1 c2 0 c4 c5 (by rw [h]; rfl) ?_
  rw [fin false false false false true false false false] <;> first | (unfold has12; rw [g]; rfl) | skip
  unfold emptyD ResF.stat
  simp
 ·refine key { f with code := 0, czxid := 0, mzxid := 0, ctime := 0, mtime := 0, version := 0, cversion := 0, aversion := 0, owner := 0, dlen := 0, nkids := 0, pzxid := 0 } a1 a2 none a4 a5 _ _ 0 _ _ c1 c2 0 c4 c5 (by rw [h]; rfl) ?_
  rw [fin false true false false true false false false] <;> first | (unfold has12; rw [g]; rfl) | skip
  unfold emptyD ResF.stat
  simp [eqStatD, StatD.zero]
 ·refine key { f with code := 0, count := 0 } a1 a2 a3 a4 a5 _ _ _ _ _ c1 c2 c3 c4 c5 (by rw [h]; rfl) ?_
  rw [fin false false false false false true false false] <;> first | (unfold has12; rw [g]; rfl) | skip
  unfold emptyD ResF.stat
  simp
 ·refine key { f with code := 0, sid := 0, timeout := 0 } a1 a2 a3 none a5 _ _ _ 0 _ c1 c2 c3 0 c5 (by rw [h]; rfl) ?_
  rw [fin false false false false false false true false] <;> first | (unfold has12; rw [g]; rfl) | skip
  unfold emptyD ResF.stat
  simp
 ·refine key { f with code := 0 } a1 a2 a3 a4 none _ _ _ _ 0 c1 c2 c3 c4 0 (by rw [h]; rfl) ?_
  rw [fin false false false false false false false true] <;> first | (unfold has12; rw [g]; rfl) | skip
  unfold emptyD ResF.stat
  simp
 ·refine key { f with code := 0 } a1 a2 a3 a4 a5 _ _ _ _ _ c1 c2 c3 c4 c5 (by rw [h]; rfl) ?_
  have hh : ∀ c : UInt8, c = 112 ∨ c = 116 ∨ c = 100 ∨ c = 97 ∨ c = 110 ∨ c = 99 ∨ c = 105 ∨ c = 109 → has12 f.type c = false := fun c hc => by
   unfold has12
   rcases g with g | g | g <;> rw [g] <;> rcases hc with rfl | rfl | rfl | rfl | rfl | rfl | rfl | rfl <;> rfl
  rw [fin false false false false false false false false (hh _ (by simp)) (hh _ (by simp)) (hh _ (by simp)) (hh _ (by simp)) (hh _ (by simp)) (hh _ (by simp)) (hh _ (by simp)) (hh _ (by simp))]
  unfold emptyD ResF.stat
  simp
set_option maxHeartbeats 16000000
def aloneD (f : ResF) (n : Nat) : Int := if great12 f = true then 3 else if (odd12 f || (decide (f.count < 0) || spare12 f n)) = true then 1 else 0
theorem owns_below {w w' : World} {base sz n : Nat} {e : TypeId} {v : Value} {xs : List Value} (h : w.ownsRow base e sz v n xs) (hb : Below w.heap.size w w') : w'.ownsRow base e sz v n xs := by
 obtain ⟨h1, h2⟩ := h
 refine ⟨h1, ?_⟩
 rcases h2 with h2 | ⟨g, cap, cur, a, b, c, d⟩
 ·exact .inl h2
 ·exact .inr ⟨g, cap, cur, a, b, by rw [hb.block g (Array.getElem?_eq_some_iff.1 c).1]; exact c, d⟩
theorem all_texts (f : ResF) : ([f.path] ++ f.names ++ (textsA f.acl ++ textsI f.ids)).any oddN = odd12 f := by
 rw [List.any_append, List.any_append, texts_any]
 unfold odd12 oddIds
 have e1 : (fun a : AclD => oddN a.id.scheme || oddN a.id.id) = badA := rfl
 have e2 : (fun x : IdD => oddN x.scheme || oddN x.id) = oddI := rfl
 rw [e1, e2]
 simp only [List.any_cons, List.any_nil, Bool.or_false, oddN]
 generalize (!u8D f.path) = x1
 generalize f.names.any _ = x2
 generalize f.acl.any badA = x3
 generalize f.ids.any oddI = x4
 cases x1 <;> cases x2 <;> cases x3 <;> cases x4 <;> rfl
theorem all_mem (f : ResF) (hf : f.Ok) : ∀ s ∈ [f.path] ++ f.names ++ (textsA f.acl ++ textsI f.ids), s.size ≤ 1048576 := fun s hs => by
 rcases List.mem_append.1 hs with hs | hs
 ·rcases List.mem_append.1 hs with hs | hs
  ·rw [List.mem_singleton.1 hs]; exact hf.path
  ·exact hf.names1 s hs
 ·exact texts_mem f hf s hs
theorem all_len (f : ResF) : ([f.path] ++ f.names ++ (textsA f.acl ++ textsI f.ids)).length = 1 + f.names.length + 2 * (f.acl.length + f.ids.length) := by
 rw [List.length_append, texts_len, List.length_append]; rfl
theorem slr_rd2 {A : Nat → Prop} {w : World} {sz : Nat} {a : Option Addr} {n c : Nat} {rows : List (List Value)} (h : SlR A w sz (.slice a n c) rows) : Rd w sz a n rows.flatten ∧ (a = none → c = 0) := by
 obtain ⟨⟨a', n', c', h1, h2, h3, h4, h5, h6, h7⟩, h8⟩ := h
 cases h1
 exact ⟨h6, h5⟩
theorem palone_any (f : ResF) (hf : f.Ok) (n : Nat) (A : Nat → Prop) (cs : List Value) (w : World) (h : ResA A w f n cs) (hA : ∀ b, A b → b < w.heap.size) (G : Glob w)
  (B : Nat → Prop) (lv : Value) (hl : SlR B w 1 lv ((codesP f.type).map codeCells)) (hB : ∀ b, B b → b < w.heap.size) :
  Calls Tryz.prog 37 #[.agg cs.toArray, lv] w fun e w' => e = .returned (.int .i64 (aloneD f n)) ∧ Below w.heap.size w w' := by
 have hlen := h.len
 have hb0 : Below w.heap.size w (w.alloc (.cells cs.toArray 40)) := (Below.refl w.heap.size w).alloc (Nat.le_refl _) _
 have hg0 : (w.alloc (.cells cs.toArray 40)).heap[w.heap.size]? = some (.cells cs.toArray 40 (0, 0)) := heap_alloc_new w _
 have hr0 : (w.alloc (.cells cs.toArray 40)).rangeAt w.heap.size 0 cs := st_range hg0
 have hlt0 : w.heap.size < (w.alloc (.cells cs.toArray 40)).heap.size := by simp
 have hT := fun (W : World) (hb : Below (w.alloc (.cells cs.toArray 40)).heap.size (w.alloc (.cells cs.toArray 40)) W) => ptexts_any f hf n A cs W (h.below hA (hb0.trans (hb.mono hb0.size))) (fun b hb' => Nat.lt_of_lt_of_le (Nat.lt_trans (hA b hb') hlt0) hb.size)
 have hG := pgreat12_any f hf n A cs (w.alloc (.cells cs.toArray 40)) (h.below hA hb0) (fun b hb' => Nat.lt_trans (hA b hb') hlt0)
 have hC := fun (W : World) (v : Value) (hb : Below (w.alloc (.cells cs.toArray 40)).heap.size (w.alloc (.cells cs.toArray 40)) W) (ho : W.ownsRow (w.alloc (.cells cs.toArray 40)).heap.size 9 1 v (1 + f.names.length + 2 * (f.acl.length + f.ids.length)) (([f.path] ++ f.names ++ (textsA f.acl ++ textsI f.ids)).map Value.string)) =>
  containsStrB_any 68 #[] (enters_of Tryz.func68 (by kernel_rfl) rfl) oddN ([f.path] ++ f.names ++ (textsA f.acl ++ textsI f.ids)) _ v W (slr_texts ho (all_len f)) (fun b hb' => hb'.2) (by rw [all_len]; have := hf.names; have := hf.acl; have := hf.ids; omega)
   (fun W' x hx hb' => poddS_any x W' (by have := all_mem f hf x hx; omega) (G.below (hb0.trans ((hb.trans (hb'.mono hb.size)).mono hb0.size))))
 have hWi := fun (W : World) (hb : Below w.heap.size w W) => pwithout_any (codesP f.type) (codesP_in f.type).1 (codesP_in f.type).2 B lv (cs.set 1 (.int .i32 0)) W (hl.below hB hb) (fun b hb' => Nat.lt_of_lt_of_le (hB b hb') hb.size) (by rw [List.length_set, hlen])
 obtain ⟨vd, va, vn, vi, vs, hcs, h1, h2, h3, h4, rows, h5, hn5⟩ := h.ex
 obtain ⟨a1, c1, rfl⟩ := h1.len'
 obtain ⟨a2, c2, rfl⟩ := h2.len'
 obtain ⟨a3, c3, rfl⟩ := h3.len'
 obtain ⟨a4, c4, rfl⟩ := h4.len'
 obtain ⟨a5, c5, rfl⟩ := h5.len'
 rw [List.length_map] at h1 h2 h3 h4
 rw [List.length_map, List.length_map, List.length_map, List.length_map, hn5] at hcs
 obtain ⟨f', b1, b2, b3, b4, b5, m1, m2, m3, m4, m5, d1, d2, d3, d4, d5, hwip, hemp⟩ := left_law f n cs a1 a2 a3 a4 a5 c1 c2 c3 c4 c5 hcs
 have hE := fun (W : World) => pempty_any f' b1 b2 b3 b4 b5 m1 m2 m3 m4 m5 d1 d2 d3 d4 d5 _ W hwip
 rw [hemp] at hE
 have hone : ∀ u ∈ cs.set 1 (.int .i32 0), u.oneCell' = true := fun u hu => by
  rcases List.mem_or_eq_of_mem_set hu with hu | rfl
  ·rw [hcs] at hu
   unfold ResF.cells at hu
   simp only [List.mem_cons, List.not_mem_nil, or_false] at hu
   rcases hu with rfl | rfl | rfl | rfl | rfl | rfl | rfl | rfl | rfl | rfl | rfl | rfl | rfl | rfl | rfl | rfl | rfl | rfl | rfl | rfl | rfl | rfl <;> rfl
  ·rfl
 replace hWi := fun (W : World) (hb : Below w.heap.size w W) => hWi W hb hone
 have m2 : f.acl.length ≤ 1048576 := hf.acl
 have m3 : f.names.length ≤ 1048576 := hf.names
 have m4 : f.ids.length ≤ 1048576 := hf.ids
 have x2 : (w.alloc (.cells cs.toArray 40)).cell? ⟨w.heap.size, 2, none⟩ = some (.string f.path) := hr0 2 _ (by rw [hcs]; rfl)
 have x16 : (w.alloc (.cells cs.toArray 40)).cell? ⟨w.heap.size, 16, none⟩ = some (.slice a3 f.names.length c3) := hr0 16 _ (by rw [hcs]; rfl)
 have x17 : (w.alloc (.cells cs.toArray 40)).cell? ⟨w.heap.size, 17, none⟩ = some (.int .i32 f.count) := hr0 17 _ (by rw [hcs]; rfl)
 have hi : (Tryz.prog.info? 40).map (·.size) = some cs.length := by rw [hlen]; kernel_rfl
 have HI := Lib.hid hi
 have hi2 : (Tryz.prog.info? 40).map (·.size) = some (cs.set 1 (.int .i32 0)).length := by rw [List.length_set]; exact hi
 have HI2 := Lib.hid hi2
 obtain ⟨_, z3⟩ := slr_rd2 h3
 have hR3 := fun (W : World) (hb : Below (w.alloc (.cells cs.toArray 40)).heap.size (w.alloc (.cells cs.toArray 40)) W) => (slr_rd2 (h3.below hA (hb0.trans (hb.mono hb0.size)))).1
 rw [str_flat] at hR3
 have hcs1 : cs.toArray[1]? = some (.int .i32 f.code) := by rw [hcs]; rfl
 have hcs17 : (cs.set 1 (.int .i32 0)).toArray[17]? = some (.int .i32 f.count) := by rw [hcs]; rfl
 have HC1 := Lib.hid hcs1
 have HC17 := Lib.hid hcs17
 unfold aloneD
 rw [all_texts] at hC
 have HCS : RowKit.Hid (1 < cs.length) := Lib.hid (by rw [hlen]; decide)
 clear h h1 h2 h3 h4 h5 hn5 hcs hi hi2 hlen hl hwip hemp hone hcs1 hcs17
 generalize great12 f = GG at hG ⊢
 generalize spare12 f n = SP at hE ⊢
 generalize odd12 f = OD at hC ⊢
 obtain ⟨ZZ, hZZ⟩ : ∃ b, decide (f.count < 0) = b := ⟨_, rfl⟩
 rw [hZZ]
 cases GG with
 | true =>
  rw [if_pos rfl]
  go_enter Tryz.func37, Tryz.ntmps37
  go_wp2_with (first
   | (with_reducible refine wpList_load_mid rfl 40 (.tmp 2) rfl w.heap.size 0 rfl cs _ hr0 Tryz.underlying40 rfl HI.out ?_)
   | (go_at_call 65; with_reducible refine hG.mono ?_; rintro e wA ⟨rfl, hbA⟩; dsimp only)
   | fail)
  go_ret
  exact ⟨rfl, hb0.trans (hbA.mono hb0.size)⟩
 | false =>
  rw [if_neg (by decide)]
  obtain ⟨R, hR⟩ : ∃ R : Int, (if (OD || (ZZ || SP)) = true then (1 : Int) else 0) = R := ⟨_, rfl⟩
  rw [hR]
  have HRR := Lib.hid hR
  clear hR
  have hS0 := Lib.hid hr0
  go_enter Tryz.func37, Tryz.ntmps37
  go_wp2_with (first
   | (with_reducible refine wpList_load_mid rfl 40 (.tmp 2) rfl w.heap.size 0 rfl cs _ hr0 Tryz.underlying40 rfl HI.out ?_)
   | (go_at_call 65; with_reducible refine hG.mono ?_; rintro e wA ⟨rfl, hbA⟩; dsimp only)
   | fail)
  refine wp_region_held_lit (S := fun W => Below (w.alloc (.cells cs.toArray 40)).heap.size (w.alloc (.cells cs.toArray 40)) W) 10 #[false, false, false, false, false, false, false, false, false, false] rfl rfl (by kernel_rfl) hbA.drew (fun hHeld => ?_)
  refine wpAnyH_take (i := 0) (oi := { dst := some 9, op := Op.fieldAddr 40 (Operand.tmp 2) 2, type := 0, pos := "reply.go:124", after := #[], guard := none }) (v := .pointer (some ⟨w.heap.size, 2, none⟩)) rfl (by kernel_rfl) (by kernel_rfl) (by kernel_rfl) (fun _ _ _ h => h) (Or.inl ⟨by rfl, fun wz hSw => by go_simp⟩) hHeld ?_
  simp only [Act.put, List.setIfInBounds_toArray, List.set]
  refine wpAnyH_take (i := 1) (oi := { dst := some 10, op := Op.load 9 (Operand.tmp 9), type := 9, pos := "reply.go:124", after := #[{ on := 0, ground := Ground.data }], guard := none }) (v := .string f.path) rfl (by kernel_rfl) (by kernel_rfl) (by kernel_rfl) (fun _ _ _ h => h) (Or.inl ⟨by rfl, fun wz hSw => by have q := (hSw.cell (p := ⟨w.heap.size, 2, none⟩) hlt0).trans x2; go_simp⟩) hHeld ?_
  simp only [Act.put, List.setIfInBounds_toArray, List.set]
  refine wpAnyH_take (i := 3) (oi := { dst := some 12, op := Op.fieldAddr 40 (Operand.tmp 2) 6, type := 0, pos := "reply.go:124", after := #[], guard := none }) (v := .pointer (some ⟨w.heap.size, 16, none⟩)) rfl (by kernel_rfl) (by kernel_rfl) (by kernel_rfl) (fun _ _ _ h => h) (Or.inl ⟨by rfl, fun wz hSw => by go_simp⟩) hHeld ?_
  simp only [Act.put, List.setIfInBounds_toArray, List.set]
  refine wpAnyH_take (i := 4) (oi := { dst := some 13, op := Op.load 29 (Operand.tmp 12), type := 29, pos := "reply.go:124", after := #[{ on := 3, ground := Ground.data }], guard := none }) (v := .slice a3 f.names.length c3) rfl (by kernel_rfl) (by kernel_rfl) (by kernel_rfl) (fun _ _ _ h => h) (Or.inl ⟨by rfl, fun wz hSw => by have q := (hSw.cell (p := ⟨w.heap.size, 16, none⟩) hlt0).trans x16; go_simp⟩) hHeld ?_
  simp only [Act.put, List.setIfInBounds_toArray, List.set]
  refine wpAnyH_take (i := 6) (oi := { dst := some 15, op := Op.load 40 (Operand.tmp 2), type := 40, pos := "reply.go:124", after := #[], guard := none }) (v := .agg cs.toArray) rfl (by kernel_rfl) (by kernel_rfl) (by kernel_rfl) (fun _ _ _ h => h) (yieldsIf_load_mid (by rfl) 40 (.tmp 2) rfl w.heap.size 0 rfl cs _ (fun wz hSw => range_below hS0.out hSw hlt0) Tryz.underlying40 rfl HI.out) hHeld ?_
  simp only [Act.put, List.setIfInBounds_toArray, List.set]
  refine wpAnyH_ready (rs := [2]) (by kernel_rfl) (by simp) ?_
  refine AllReadyH.cons (o := { dst := some 11, op := Op.buildSlice 29 1 #[(0, Operand.tmp 10)], type := 29, pos := "reply.go:124", after := #[{ on := 1, ground := Ground.data }], guard := none }) rfl (fun K hK => ?_) AllReadyH.nil
  go_simp
  have hbB := hHeld.alloc hHeld.size (.cells #[.string f.path] 9)
  have hoB := World.ownsRow_lit (base := (w.alloc (.cells cs.toArray 40)).heap.size) (e := 9) (size := 1) wA.drew #[.string f.path] 1 hHeld.size (by decide) rfl
  have hRB := hR3 _ hbB
  clear hHeld
  refine hK.out _ _ hbB (fun hHeld => ?_)
  clear hK K
  refine wpAnyH_ready (rs := [5]) (by kernel_rfl) (by simp) ?_
  refine AllReadyH.cons (o := { dst := some 14, op := Op.call { callee := Callee.builtin Builtin.append, args := #[Operand.tmp 11, Operand.tmp 13], argTypes := #[29, 29] }, type := 29, pos := "reply.go:124", after := #[{ on := 2, ground := Ground.data }, { on := 4, ground := Ground.data }], guard := none }) rfl (fun K hK => ?_) AllReadyH.nil
  refine step_app sStr rfl (.tmp 11) (.tmp 13) rfl (w.alloc (.cells cs.toArray 40)).heap.size (.slice (some ⟨wA.heap.size, 0, none⟩) 1 1) 1 [.string f.path] (by rfl) hoB a3 f.names.length c3 (f.names.map Value.string) (by rfl) hRB (fun _ h => z3 h) (fun u hu => by obtain ⟨x, _, rfl⟩ := List.mem_map.1 hu; rfl) (by unfold maxLen; omega) (by omega) hbB.size ?_
  intro v1 w1 hown1 hg1 hat1
  have hb1 := below_app hbB hg1 hoB (Nat.le_refl _) hbB.size
  clear hg1 hat1 hbB hoB hRB hHeld
  refine hK.out _ _ hb1 (fun hHeld => ?_)
  clear hK K
  simp only [Act.put, List.setIfInBounds_toArray, List.set]
  refine wpAnyH_ready (rs := [7]) (by kernel_rfl) (by simp) ?_
  refine AllReadyH.cons (o := { dst := some 16, op := Op.call { callee := Callee.value (Operand.func 66), args := #[Operand.tmp 15], argTypes := #[40] }, type := 29, pos := "reply.go:124", after := #[{ on := 6, ground := Ground.data }, { on := 5, ground := Ground.chain }], guard := none }) rfl (fun K hK => ?_) AllReadyH.nil
  go_simp
  refine (hT w1 hb1).mono ?_
  rintro e w2 ⟨tv, rfl, hb2, hown2⟩
  have hown1' := owns_below hown1 hb2
  replace hb2 := hb1.trans (hb2.mono hb1.size)
  have hs2 := slr_texts hown2 (texts_len f)
  obtain ⟨atx, ctx, htv⟩ := hs2.len'
  rw [List.length_map, texts_len] at htv
  rw [htv] at hs2
  obtain ⟨hRT, hzt⟩ := slr_rd2 hs2
  rw [str_flat] at hRT
  clear hs2 hown2 hown1 hb1 hHeld
  refine hK.out _ _ hb2 (fun hHeld => ?_)
  clear hK K
  simp only [List.setIfInBounds_toArray, List.set]
  refine wpAnyH_ready (rs := [8]) (by kernel_rfl) (by simp) ?_
  refine AllReadyH.cons (o := { dst := some 17, op := Op.call { callee := Callee.builtin Builtin.append, args := #[Operand.tmp 14, Operand.tmp 16], argTypes := #[29, 29] }, type := 29, pos := "reply.go:124", after := #[{ on := 5, ground := Ground.data }, { on := 7, ground := Ground.data }, { on := 7, ground := Ground.chain }], guard := none }) rfl (fun K hK => ?_) AllReadyH.nil
  refine step_app sStr rfl (.tmp 14) (.tmp 16) rfl (w.alloc (.cells cs.toArray 40)).heap.size v1 (1 + f.names.length) ([.string f.path] ++ f.names.map Value.string) (by rfl) hown1' atx (2 * (f.acl.length + f.ids.length)) ctx ((textsA f.acl ++ textsI f.ids).map Value.string) (by exact htv) hRT (fun _ h => hzt h) (fun u hu => by obtain ⟨x, _, rfl⟩ := List.mem_map.1 hu; rfl) (by unfold maxLen; omega) (by omega) hb2.size ?_
  intro v3 w3 hown3 hg3 hat3
  have hb3 := below_app hb2 hg3 hown1' (Nat.le_refl _) hb2.size
  clear hg3 hat3 hb2 hown1' hRT hzt htv hHeld
  refine hK.out _ _ hb3 (fun hHeld => ?_)
  clear hK K
  simp only [Act.put, List.setIfInBounds_toArray, List.set]
  refine wpAnyH_take (i := 9) (oi := { dst := some 5, op := Op.assign (Operand.tmp 17), type := 29, pos := "reply.go:124", after := #[{ on := 8, ground := Ground.data }, { on := 8, ground := Ground.chain }, { on := 0, ground := Ground.phase }, { on := 1, ground := Ground.phase }, { on := 2, ground := Ground.phase }, { on := 3, ground := Ground.phase }, { on := 4, ground := Ground.phase }, { on := 5, ground := Ground.phase }, { on := 6, ground := Ground.phase }, { on := 7, ground := Ground.phase }, { on := 8, ground := Ground.phase }], guard := none }) (v := v3) rfl (by kernel_rfl) (by kernel_rfl) (by kernel_rfl) (fun _ _ _ h => h) (Or.inl ⟨by rfl, fun wz hSw => by go_simp⟩) hHeld ?_
  simp only [Act.put, List.setIfInBounds_toArray, List.set]
  refine wpAnyH_done (by kernel_rfl) ?_ _
  have hown4 : w3.ownsRow (w.alloc (.cells cs.toArray 40)).heap.size 9 1 v3 (1 + f.names.length + 2 * (f.acl.length + f.ids.length)) (([f.path] ++ f.names ++ (textsA f.acl ++ textsI f.ids)).map Value.string) := by
   have e : ([f.path] ++ f.names ++ (textsA f.acl ++ textsI f.ids)).map Value.string = [.string f.path] ++ f.names.map Value.string ++ (textsA f.acl ++ textsI f.ids).map Value.string := by simp only [List.map_append, List.map_cons, List.map_nil]
   rw [e]; exact hown3
  have hC3 := hC w3 v3 hb3 hown4
  clear hown3 hown4 hHeld hC hT hG hR3
  have HB3 := Lib.hid hb3
  clear hb3 hbA
  have hG0 := Lib.hid hg0
  clear hg0 hr0
  have hcase : (OD = true) ∨ (OD = false ∧ ZZ = true ∧ f.count < 0) ∨ (OD = false ∧ ZZ = false ∧ ¬ f.count < 0 ∧ SP = true) ∨ (OD = false ∧ ZZ = false ∧ ¬ f.count < 0 ∧ SP = false) := by
   cases OD <;> cases ZZ <;> cases SP <;> simp at hZZ ⊢ <;> omega
  have hR := HRR.out
  clear HRR
  rcases hcase with rfl | ⟨rfl, rfl, hz⟩ | ⟨rfl, rfl, hz, rfl⟩ | ⟨rfl, rfl, hz, rfl⟩
  all_goals
   simp at hR
   subst hR
   try simp only [Bool.not_true, Bool.not_false] at hE
   go_wp2_with (first
    | (go_at_call 67; with_reducible refine hC3.mono ?_; rintro e w4 ⟨rfl, hb4⟩; have hbq := HB3.out.trans (hb4.mono HB3.out.size); have hbw4 : Below w.heap.size w w4 := hb0.trans (hbq.mono hb0.size); have hrow4 : w4.heap[w.heap.size]? = some (.cells cs.toArray 40 (0, 0)) := (hbq.block w.heap.size hlt0).trans hG0.out; have fz4 : w4.frozen? ⟨w.heap.size, 1, none⟩ = false := st_free hrow4 1; have x1 : w4.cell? ⟨w.heap.size, 1, none⟩ = some (.int .i32 f.code) := st_at hrow4 HC1.out; have hrow5 : (w4.setCell ⟨w.heap.size, 1, none⟩ (.int .i32 0)).heap[w.heap.size]? = some (.cells (cs.set 1 (.int .i32 0)).toArray 40 (0, 0)) := (st_set hrow4 1 (.int .i32 0)).trans (by simp); have hr5 : (w4.setCell ⟨w.heap.size, 1, none⟩ (.int .i32 0)).rangeAt w.heap.size 0 (cs.set 1 (.int .i32 0)) := (by (have := st_range hrow5; rwa [List.toList_toArray] at this)); have x175 : (w4.setCell ⟨w.heap.size, 1, none⟩ (.int .i32 0)).cell? ⟨w.heap.size, 17, none⟩ = some (.int .i32 f.count) := st_at hrow5 HC17.out; have hb5 : Below w.heap.size w (w4.setCell ⟨w.heap.size, 1, none⟩ (.int .i32 0)) := hbw4.setCell (Nat.le_refl _) _; clear hb4 hbq hbw4 hrow4 hrow5; dsimp only)
    | (with_reducible refine wpList_load_guarded (by with_unfolding_all rfl) 40 (.tmp 2) rfl w.heap.size 0 rfl (cs.set 1 (.int .i32 0)) _ hr5 Tryz.underlying40 rfl HI2.out ?_)
    | (go_at_call 70; with_reducible refine (hWi _ hb5).mono ?_; rintro e w6 ⟨rfl, hb6⟩; have hbw6 := hb5.trans (hb6.mono hb5.size); dsimp only)
    | (go_at_call 35; with_reducible refine (hE w6).mono ?_; rintro e w7 ⟨rfl, hb7⟩; have hbw7 := hbw6.trans (hb7.mono hbw6.size); dsimp only)
    | fail)
   go_ret
   refine ⟨rfl, ?_⟩
   first | exact hbw7 | exact hb5
set_option maxHeartbeats 8000000
def partPD (f : ResF) (n : Nat) (i : Int) : Int := if part12 f.type i = true then (if aloneD f n = 0 then (if (f.code != 0 && f.type != -1) = true then 1 else 0) else aloneD f n) else 110
theorem part_fields (t i : Int) (h : part12 t i = true) : (fields12 t == [63]) = false := by
 rcases part_cases t with rfl | rfl | rfl | rfl | rfl | rfl | rfl | rfl | rfl | rfl | rfl | rfl | rfl | rfl | rfl | rfl | h'
 case inr.inr.inr.inr.inr.inr.inr.inr.inr.inr.inr.inr.inr.inr.inr.inr => rw [otherP_part h'] at h; cases h
 all_goals rfl
theorem part_own (f : ResF) (n : Nat) (i : Int) (hi : i ≠ 0) : partPD f n i = own12 f n i := by
 unfold partPD own12 op12 aloneD
 have e0 : (i == 0) = false := by simpa using hi
 have e1 : (i != 0) = true := by simpa using hi
 rw [e0, e1]
 cases hp : part12 f.type i with
 | false => simp
 | true =>
  rw [part_fields _ _ hp]
  generalize great12 f = x1
  generalize odd12 f = x2
  generalize spare12 f n = x3
  generalize decide (f.count < 0) = x4
  generalize (f.code != 0) = x5
  generalize (f.type != -1) = x6
  cases x1 <;> cases x2 <;> cases x3 <;> cases x4 <;> cases x5 <;> cases x6 <;> rfl
theorem ppart_any (f : ResF) (hf : f.Ok) (n : Nat) (i : Int) (A : Nat → Prop) (cs : List Value) (w : World) (h : ResA A w f n cs) (hA : ∀ b, A b → b < w.heap.size) (G : Glob w) :
  Calls Tryz.prog 38 #[.int .i32 i, .agg cs.toArray] w fun e w' => e = .returned (.int .i64 (partPD f n i)) ∧ Below w.heap.size w w' := by
 have hlen := h.len
 have hb0 : Below w.heap.size w (w.alloc (.cells cs.toArray 40)) := (Below.refl w.heap.size w).alloc (Nat.le_refl _) _
 have hr0 : (w.alloc (.cells cs.toArray 40)).rangeAt w.heap.size 0 cs := st_range (heap_alloc_new w _)
 have hlt0 : w.heap.size < (w.alloc (.cells cs.toArray 40)).heap.size := by simp
 have hP := pinner_any f.type i (w.alloc (.cells cs.toArray 40))
 have hF := pfields_any f.type (w.alloc (.cells cs.toArray 40))
 unfold FieldsPost at hF
 have hAl := fun (W : World) (lv : Value) (hb : Below (w.alloc (.cells cs.toArray 40)).heap.size (w.alloc (.cells cs.toArray 40)) W) (hl : SlR (fun b => (w.alloc (.cells cs.toArray 40)).heap.size ≤ b ∧ b < W.heap.size) W 1 lv ((codesP f.type).map codeCells)) =>
  palone_any f hf n A cs W (h.below hA (hb0.trans (hb.mono hb0.size))) (fun b hb' => Nat.lt_of_lt_of_le (Nat.lt_trans (hA b hb') hlt0) hb.size) (G.below (hb0.trans (hb.mono hb0.size))) _ lv hl (fun b hb' => hb'.2)
 obtain ⟨_, _, _, _, _, hcs, _⟩ := h.ex
 have x00 : (w.alloc (.cells cs.toArray 40)).cell? ⟨w.heap.size, 0, none⟩ = some (.int .i32 f.type) := hr0 0 _ (by rw [hcs]; rfl)
 have x10 : (w.alloc (.cells cs.toArray 40)).cell? ⟨w.heap.size, 1, none⟩ = some (.int .i32 f.code) := hr0 1 _ (by rw [hcs]; rfl)
 have hi : (Tryz.prog.info? 40).map (·.size) = some cs.length := by rw [hlen]; kernel_rfl
 have HI := Lib.hid hi
 unfold partPD
 clear hcs hlen h hi
 generalize aloneD f n = O at hAl ⊢
 generalize part12 f.type i = P at hP ⊢
 generalize okP f.type = K at hF
 generalize (codesP f.type).map codeCells = L at hF hAl
 generalize f.type = t at *
 generalize f.code = c at *
 have hcase : (P = false) ∨ (P = true ∧ O ≠ 0 ∧ (O != 0) = true) ∨ (P = true ∧ O = 0 ∧ (c != 0) = false) ∨ (P = true ∧ O = 0 ∧ (c != 0) = true ∧ (t != -1) = false) ∨ (P = true ∧ O = 0 ∧ (c != 0) = true ∧ (t != -1) = true) := by
  by_cases ho : O = 0 <;> cases P <;> cases (c != 0) <;> cases (t != -1) <;> simp [ho]
 rcases hcase with rfl | ⟨rfl, o1, o2⟩ | ⟨rfl, rfl, c1⟩ | ⟨rfl, rfl, c1, t1⟩ | ⟨rfl, rfl, c1, t1⟩
 all_goals
  simp only [*, if_true, Bool.false_eq_true, if_false, Bool.false_and, Bool.and_self, Bool.and_false]
  go_enter Tryz.func38, Tryz.ntmps38
  go_wp2_with (first
   | (go_at_call 71; with_reducible refine hP.mono ?_; rintro e w' ⟨rfl, hW⟩; replace hW := hW.symm; subst hW; dsimp only)
   | (go_at_call 36; with_reducible refine hF.mono ?_; rintro e wF ⟨lv, rfl, hlF, hcF⟩; have hbF := hb0.trans (hcF.mono hb0.size); have x0F := (hcF.cell (p := ⟨w.heap.size, 0, none⟩) hlt0).trans x00; have x1F := (hcF.cell (p := ⟨w.heap.size, 1, none⟩) hlt0).trans x10; have hrF := range_below hr0 hcF hlt0; have hltF := Nat.lt_of_lt_of_le hlt0 hcF.size; dsimp only)
   | (with_reducible refine wpList_load_mid rfl 40 (.tmp 3) rfl w.heap.size 0 rfl cs _ hrF Tryz.underlying40 rfl HI.out ?_)
   | (go_at_call 37; with_reducible refine (hAl wF lv hcF hlF).mono ?_; rintro e wG ⟨rfl, hcG⟩; have hbG := hbF.trans (hcG.mono hbF.size); have x0G := (hcG.cell (p := ⟨w.heap.size, 0, none⟩) hltF).trans x0F; have x1G := (hcG.cell (p := ⟨w.heap.size, 1, none⟩) hltF).trans x1F; dsimp only)
   | fail)
  go_ret
  refine ⟨rfl, ?_⟩
  first | exact hbG | exact hb0
end Go.Proofs.YtfgjiidbafdndaaGreatDoor
