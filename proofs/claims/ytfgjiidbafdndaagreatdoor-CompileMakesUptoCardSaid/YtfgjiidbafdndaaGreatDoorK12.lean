/- What is the matter with a transaction alone, in the document's words. -/
import Derived.Test.YtfgjiidbafdndaaGreatDoorK11
import Derived.Test.YtfgjiidbafdndaaGreatDoorK10
import Derived.Shelf.Abstract
import Derived.Laws.EntriesVeiled
import Derived.Test.YtfgjiidbafdndaaGreatDoorK8
import Derived.Deep.WholeRow
namespace Go.Proofs.YtfgjiidbafdndaaGreatDoor
open Go.RowKit
set_option maxHeartbeats 8000000
set_option maxRecDepth 100000
theorem TxnA.below {A : Nat → Prop} {w W : World} {f : TxnF} {n : Nat} {cs : List Value} (h : TxnA A w f n cs) (hA : ∀ b, A b → b < w.heap.size) (hb : Below w.heap.size w W) : TxnA A W f n cs := by
 obtain ⟨vd, va, vi, vp, vs, h0, h1, h2, h3, h4, rows, h5, h6⟩ := h.ex
 exact ⟨vd, va, vi, vp, vs, h0, h1.below hA hb, h2.below hA hb, h3.below hA hb, h4.below hA hb, rows, h5.below hA hb, h6⟩
theorem TxnA.len {A : Nat → Prop} {w : World} {f : TxnF} {n : Nat} {cs : List Value} (h : TxnA A w f n cs) : cs.length = 16 := by
 obtain ⟨vd, va, vi, vp, vs, h0, _⟩ := h.ex
 rw [h0]; rfl
def own13 (f : TxnF) (n : Nat) (zxid : Int) : Int := if named13 f = true then 30 else if great13 f n = true then 3 else if (spare13 f n || odd13 f zxid) = true then 1 else 0
theorem load33 {w : World} {b : Nat} {cs : List Value} (hl : cs.length = 16) (h : w.rangeAt b 0 cs) : (Instr.loadAt 33 (.pointer (some ⟨b, 0, none⟩))).run Tryz.prog w = .ok (.agg cs.toArray) w :=
 run_loadAt_mid w b 0 33 cs _ h Tryz.underlying33 rfl (by rw [hl]; kernel_rfl)
theorem wpList_load_guarded {P : Program} {ops : Array Oper} {rest : List Oper} {op : Oper} {a : Act} {w : World} {Q : Exit → Act → World → Prop} (hw : Region.wanted op (yielded ops a.tmps) = true) (ty : TypeId) (x : Operand) (ho : op.op = .load ty x)
  (b o : Nat) (hx : a.eval x = .pointer (some ⟨b, o, none⟩)) (cs : List Value) (d : TypeDesc) (hc : w.rangeAt b o cs)
  (hu : P.underlying ty = some d) (hd : d.isRow = true) (hi : (P.info? ty).map (·.size) = some cs.length)
  (h : wpList P ops Q rest (a.put op.dst (.agg cs.toArray)) w) : wpList P ops Q (op :: rest) a w := by
 simp only [wpList, hw, if_true]
 exact Or.inl (wp_load_mid ty x ho b o hx cs d hc hu hd hi h)
theorem refown_any (f : TxnF) (hf : f.Ok) (n : Nat) (zxid : Int) (A : Nat → Prop) (cs : List Value) (w : World) (h : TxnA A w f n cs) (hA : ∀ b, A b → b < w.heap.size) :
  Calls Tryz.prog 40 #[.agg cs.toArray, .int .i64 zxid] w fun e w' => e = .returned (.int .i64 (own13 f n zxid)) ∧ Below w.heap.size w w' := by
 have hbb : Below w.heap.size w (w.alloc (.cells cs.toArray 33)) := (Below.refl w.heap.size w).alloc (Nat.le_refl _) _
 have hN := fun (W : World) (hb : Below w.heap.size w W) => refnamed_any f hf n A cs W (h.below hA hb) (fun b hb' => Nat.lt_of_lt_of_le (hA b hb') hb.size)
 have hG := fun (W : World) (hb : Below w.heap.size w W) => refgreat_any f hf n A cs W (h.below hA hb) (fun b hb' => Nat.lt_of_lt_of_le (hA b hb') hb.size)
 have hS := fun (W : World) (hb : Below w.heap.size w W) => refspare_any f hf n A cs W (h.below hA hb) (fun b hb' => Nat.lt_of_lt_of_le (hA b hb') hb.size)
 have hO := fun (W : World) (hb : Below w.heap.size w W) => refodd_any f hf n zxid A cs W (h.below hA hb) (fun b hb' => Nat.lt_of_lt_of_le (hA b hb') hb.size)
 have hlen := h.len
 unfold own13
 generalize named13 f = P at hN ⊢
 generalize great13 f n = G at hG ⊢
 generalize spare13 f n = S at hS ⊢
 generalize odd13 f zxid = O at hO ⊢
 have hr0 : (w.alloc (.cells cs.toArray 33)).rangeAt w.heap.size 0 cs := st_range (heap_alloc_new w _)
 have hlt : w.heap.size < (w.alloc (.cells cs.toArray 33)).heap.size := by simp
 have hi : (Tryz.prog.info? 33).map (·.size) = some cs.length := by rw [hlen]; kernel_rfl
 have hi := Lib.hid hi
 have hlen := Lib.hid hlen
 clear h
 rcases (by cases P <;> cases G <;> cases S <;> cases O <;> simp : P = true ∨ (P = false ∧ G = true) ∨ (P = false ∧ G = false ∧ S = true) ∨ (P = false ∧ G = false ∧ S = false ∧ O = true) ∨ (P = false ∧ G = false ∧ S = false ∧ O = false)) with rfl | ⟨rfl, rfl⟩ | ⟨rfl, rfl, rfl⟩ | ⟨rfl, rfl, rfl, rfl⟩ | ⟨rfl, rfl, rfl, rfl⟩
 all_goals
  simp only [if_true, Bool.false_eq_true, if_false, Bool.true_or, Bool.or_true, Bool.or_self] at hN hG hS hO ⊢
  go_enter Tryz.func40, Tryz.ntmps40
  go_wp2_with (first
   | (with_reducible refine wpList_load_mid rfl 33 (.tmp 2) rfl w.heap.size 0 rfl cs _ hrC Tryz.underlying33 rfl hi.out ?_)
   | (with_reducible refine wpList_load_mid rfl 33 (.tmp 2) rfl w.heap.size 0 rfl cs _ hrB Tryz.underlying33 rfl hi.out ?_)
   | (with_reducible refine wpList_load_mid rfl 33 (.tmp 2) rfl w.heap.size 0 rfl cs _ hrA Tryz.underlying33 rfl hi.out ?_)
   | (with_reducible refine wpList_load_mid rfl 33 (.tmp 2) rfl w.heap.size 0 rfl cs _ hr0 Tryz.underlying33 rfl hi.out ?_)
   | (with_reducible refine wpList_load_guarded (by with_unfolding_all rfl) 33 (.tmp 2) rfl w.heap.size 0 rfl cs _ hrC Tryz.underlying33 rfl hi.out ?_)
   | (go_at_call 72; with_reducible refine (hN _ hbb).mono ?_; rintro e wA ⟨rfl, hcA⟩; have hbA := hbb.trans (hcA.mono hbb.size); have hrA := range_below hr0 hcA hlt; have hltA := Nat.lt_of_lt_of_le hlt hcA.size; clear hcA)
   | (go_at_call 73; with_reducible refine (hG _ hbA).mono ?_; rintro e wB ⟨rfl, hcB⟩; have hbB := hbA.trans (hcB.mono hbA.size); have hrB := range_below hrA hcB hltA; have hltB := Nat.lt_of_lt_of_le hltA hcB.size; clear hcB)
   | (go_at_call 74; with_reducible refine (hS _ hbB).mono ?_; rintro e wC ⟨rfl, hcC⟩; have hbC := hbB.trans (hcC.mono hbB.size); have hrC := range_below hrB hcC hltB; have hltC := Nat.lt_of_lt_of_le hltB hcC.size; clear hcC)
   | (go_at_call 75; with_reducible refine (hO _ hbC).mono ?_; rintro e wD ⟨rfl, hcD⟩; have hbD := hbC.trans (hcD.mono hbC.size); have hrD := range_below hrC hcD hltC; have hltD := Nat.lt_of_lt_of_le hltC hcD.size; clear hcD)
   | fail)
  go_ret
  refine ⟨rfl, ?_⟩
  first | exact hbD | exact hbC | exact hbB | exact hbA
theorem knows_any (t : Int) (w : World) : Calls Tryz.prog 32 #[.int .i32 t] w fun e w' => e = .returned (.bool (knownD t)) ∧ w' = w := by
 have hP := part13_any t w
 rcases type_cases t with rfl | rfl | rfl | rfl | rfl | rfl | rfl | rfl | rfl | rfl | rfl | h
 all_goals try
  rw [show knownD _ = true from by decide]
  first | rw [show partD _ = true from by decide] at hP | rw [show partD _ = false from by decide] at hP
  go_enter Tryz.func32, Tryz.ntmps32
  go_wp2_with (go_at_call 34; refine hP.mono ?_; rintro e w' ⟨rfl, rfl⟩)
  go_ret
  exact ⟨rfl, rfl⟩
 rw [other_known h]
 rw [other_part h] at hP
 obtain ⟨_, _, _, _, _, h6, _, _, h9, h10, h11⟩ := h
 go_enter Tryz.func32, Tryz.ntmps32
 go_wp2_with (go_at_call 34; refine hP.mono ?_; rintro e w' ⟨rfl, rfl⟩)
 go_ret
 exact ⟨rfl, rfl⟩
theorem pvalidP_any (s : ByteArray) (w : World) (hs : s.size ≤ 4611686018427387904) (G : Glob w) :
  Calls Tryz.prog 100 #[.string s] w fun e w' => e = .returned (.bool (pathD s)) ∧ Below w.heap.size w w' := by
 have hC := pcheck_any s w hs G
 go_enter Tryz.func100, Tryz.ntmps100
 go_wp2_with (go_at_call 150; refine hC.mono ?_; rintro e w' ⟨⟨a, b, rfl, hab⟩, hb⟩)
 go_ret
 refine ⟨ret_bool ?_, hb⟩
 cases hR : pathD s with
 | true => rw [hR] at hab; simpa using hab.2 rfl
 | false => rw [hR] at hab; simpa using hab
theorem pbad_any (s : ByteArray) (w : World) (hs : s.size ≤ 4611686018427387904) (G : Glob w) :
  Calls Tryz.prog 99 #[.string s] w fun e w' => e = .returned (.bool (badP s)) ∧ Below w.heap.size w w' := by
 have hV := pvalidP_any s w hs G
 unfold badP rootB
 obtain ⟨S, hS⟩ : ∃ S, (s.toList == [47]) = S := ⟨_, rfl⟩
 rw [hS]
 generalize pathD s = P at hV ⊢
 cases P with
 | false =>
  go_enter Tryz.func99, Tryz.ntmps99
  go_wp2_with (go_at_call 100; refine hV.mono ?_; rintro e w' ⟨rfl, hb⟩)
  go_ret
  exact ⟨rfl, hb⟩
 | true =>
  go_enter Tryz.func99, Tryz.ntmps99
  go_wp2_with (go_at_call 100; refine hV.mono ?_; rintro e w' ⟨rfl, hb⟩)
  go_ret
  exact ⟨ret_bool (by simp), hb⟩
theorem plong_any (x : IdD) (w : World) (h1 : x.scheme.size ≤ 1048576) (h2 : x.id.size ≤ 1048576) :
  Calls Tryz.prog 101 #[.agg #[.string x.scheme, .string x.id]] w fun e w' => e = .returned (.bool (longI x)) ∧ Below w.heap.size w w' := by
 have hb0 : Below w.heap.size w (w.alloc (.cells #[.string x.scheme, .string x.id] 79)) := (Below.refl _ _).alloc (Nat.le_refl _) _
 have x0 : (w.alloc (.cells #[.string x.scheme, .string x.id] 79)).cell? ⟨w.heap.size, 0, none⟩ = some (.string x.scheme) := st_at (heap_alloc_new w _) rfl
 have x1 : (w.alloc (.cells #[.string x.scheme, .string x.id] 79)).cell? ⟨w.heap.size, 1, none⟩ = some (.string x.id) := st_at (heap_alloc_new w _) rfl
 unfold longI
 by_cases c1 : 256 < x.scheme.size
 ·have c1z : (256 : Int) < x.scheme.size := by omega
  rw [decide_eq_true c1, Bool.true_or]
  go_enter Tryz.func101, Tryz.ntmps101
  go_wp2
  go_ret
  exact ⟨rfl, hb0⟩
 ·have c1z : ¬ (256 : Int) < x.scheme.size := by omega
  rw [decide_eq_false c1, Bool.false_or]
  by_cases c2 : 256 < x.id.size
  ·have c2z : (256 : Int) < x.id.size := by omega
   rw [decide_eq_true c2]
   go_enter Tryz.func101, Tryz.ntmps101
   go_wp2
   go_ret
   exact ⟨rfl, hb0⟩
  ·have c2z : ¬ (256 : Int) < x.id.size := by omega
   rw [decide_eq_false c2]
   go_enter Tryz.func101, Tryz.ntmps101
   go_wp2
   go_ret
   exact ⟨ret_bool (by simp), hb0⟩
theorem plongA_any (x : AclD) (b : Nat) (w : World) (h1 : x.id.scheme.size ≤ 1048576) (h2 : x.id.id.size ≤ 1048576) (hb : w.cell? ⟨b, 0, none⟩ = some (.func (.func 101) #[] #[])) :
  Calls Tryz.prog 103 #[.agg #[.int .i32 x.perms, .string x.id.scheme, .string x.id.id], .pointer (some ⟨b, 0, none⟩)] w fun e w' => e = .returned (.bool (longI x.id)) ∧ Below w.heap.size w w' := by
 have hb0 : Below w.heap.size w (w.alloc (.cells #[.int .i32 x.perms, .string x.id.scheme, .string x.id.id] 81)) := (Below.refl _ _).alloc (Nat.le_refl _) _
 have x1 : (w.alloc (.cells #[.int .i32 x.perms, .string x.id.scheme, .string x.id.id] 81)).cell? ⟨w.heap.size, 1, none⟩ = some (.string x.id.scheme) := st_at (heap_alloc_new w _) rfl
 have x2 : (w.alloc (.cells #[.int .i32 x.perms, .string x.id.scheme, .string x.id.id] 81)).cell? ⟨w.heap.size, 2, none⟩ = some (.string x.id.id) := st_at (heap_alloc_new w _) rfl
 have hb1 := cell_stays hb0 hb
 have hL := plong_any x.id (w.alloc (.cells #[.int .i32 x.perms, .string x.id.scheme, .string x.id.id] 81)) h1 h2
 generalize longI x.id = L at hL ⊢
 go_enter Tryz.func103, Tryz.ntmps103
 go_wp2_with (go_at_call 101; refine hL.mono ?_; rintro e w' ⟨rfl, hb⟩)
 go_ret
 exact ⟨rfl, hb0.trans (hb.mono hb0.size)⟩
theorem poddA_any (x : AclD) (w : World) (h1 : x.id.scheme.size ≤ 1048576) (h2 : x.id.id.size ≤ 1048576) (G : Glob w) :
  Calls Tryz.prog 105 #[.agg #[.int .i32 x.perms, .string x.id.scheme, .string x.id.id]] w fun e w' => e = .returned (.bool (badA x)) ∧ Below w.heap.size w w' := by
 have hb0 : Below w.heap.size w (w.alloc (.cells #[.int .i32 x.perms, .string x.id.scheme, .string x.id.id] 81)) := (Below.refl _ _).alloc (Nat.le_refl _) _
 have hlt0 : w.heap.size < (w.alloc (.cells #[.int .i32 x.perms, .string x.id.scheme, .string x.id.id] 81)).heap.size := by simp
 have x1 : (w.alloc (.cells #[.int .i32 x.perms, .string x.id.scheme, .string x.id.id] 81)).cell? ⟨w.heap.size, 1, none⟩ = some (.string x.id.scheme) := st_at (heap_alloc_new w _) rfl
 have x2 : (w.alloc (.cells #[.int .i32 x.perms, .string x.id.scheme, .string x.id.id] 81)).cell? ⟨w.heap.size, 2, none⟩ = some (.string x.id.id) := st_at (heap_alloc_new w _) rfl
 have hS := fun (W : World) (hb : Below w.heap.size w W) => pvalid_any x.id.scheme W (by omega) (G.below hb)
 have hI := fun (W : World) (hb : Below w.heap.size w W) => pvalid_any x.id.id W (by omega) (G.below hb)
 unfold badA
 generalize u8D x.id.scheme = S at hS ⊢
 generalize u8D x.id.id = I at hI ⊢
 rcases (by cases S <;> simp : S = false ∨ S = true) with rfl | rfl
 all_goals
  go_enter Tryz.func105, Tryz.ntmps105
  go_wp2_with (first
   | (go_at_call 69; with_reducible refine (hS _ hb0).mono ?_; rintro e wA ⟨rfl, hcA⟩; have hbA := hb0.trans (hcA.mono hb0.size); have x1A := (hcA.cell (p := ⟨w.heap.size, 1, none⟩) hlt0).trans x1; have x2A := (hcA.cell (p := ⟨w.heap.size, 2, none⟩) hlt0).trans x2; clear hcA)
   | (go_at_call 69; with_reducible refine (hI _ hbA).mono ?_; rintro e wB ⟨rfl, hcB⟩; have hbB := hbA.trans (hcB.mono hbA.size)))
  go_ret
  refine ⟨ret_bool ?_, ?_⟩
  ·simp
  ·first | exact hbB | exact hbA
set_option maxHeartbeats 4000000
theorem pnamed_any (f : TxnF) (hf : f.Ok) (n : Nat) (A : Nat → Prop) (cs : List Value) (w : World) (h : TxnA A w f n cs) (hA : ∀ b, A b → b < w.heap.size) (G : Glob w) (hk : knownD f.type = true) :
  Calls Tryz.prog 62 #[.agg cs.toArray] w fun e w' => e = .returned (.bool (named13 f)) ∧ Below w.heap.size w w' := by
 have hbb : Below w.heap.size w (w.alloc (.cells cs.toArray 33)) := (Below.refl w.heap.size w).alloc (Nat.le_refl _) _
 have hr0 : (w.alloc (.cells cs.toArray 33)).rangeAt w.heap.size 0 cs := st_range (heap_alloc_new w _)
 obtain ⟨vd, va, vi, vp, vs, hcs, h1, h2, h3, h4, rows, h5, hn5⟩ := h.ex
 have x0 : (w.alloc (.cells cs.toArray 33)).cell? ⟨w.heap.size, 0, none⟩ = some (.int .i32 f.type) := hr0 0 _ (by rw [hcs]; rfl)
 have x1 : (w.alloc (.cells cs.toArray 33)).cell? ⟨w.heap.size, 1, none⟩ = some (.string f.path) := hr0 1 _ (by rw [hcs]; rfl)
 have x13 : (w.alloc (.cells cs.toArray 33)).cell? ⟨w.heap.size, 13, none⟩ = some vp := hr0 13 _ (by rw [hcs]; rfl)
 have hP := part13_any f.type (w.alloc (.cells cs.toArray 33))
 have hB := pbad_any f.path (w.alloc (.cells cs.toArray 33)) (by have := hf.path; omega) (G.below hbb)
 have hV := pvalidP_any f.path (w.alloc (.cells cs.toArray 33)) (by have := hf.path; omega) (G.below hbb)
 have hC := containsStr_any 99 #[] (enters_of Tryz.func99 (by kernel_rfl) rfl) badP f.paths A vp (w.alloc (.cells cs.toArray 33)) (h4.below hA hbb) (fun b hb' => Nat.lt_of_lt_of_le (hA b hb') hbb.size) hf.paths
  (fun W x hx hb => pbad_any x W (by have := hf.paths1 x hx; omega) (G.below (hbb.trans (hb.mono hbb.size))))
 obtain ⟨R, hR⟩ : ∃ R, named13 f = R := ⟨_, rfl⟩
 rw [hR]
 have hbp : badP f.path = (!pathD f.path || rootB f.path) := rfl
 unfold named13 hasF at hR
 generalize badP f.path = B at hB hbp
 generalize pathD f.path = V at hV hbp hR
 generalize rootB f.path = T at hbp hR
 generalize f.paths.any badP = L at hC hR
 obtain ⟨s4, p4, rfl⟩ := h4.len'
 rw [List.length_map] at hC x13
 clear h h1 h2 h3 h4 h5 hn5 hcs hr0 G hf
 rcases type_cases f.type with h | h | h | h | h | h | h | h | h | h | h | h
 case inr.inr.inr.inr.inr.inr.inr.inr.inr.inr.inr =>
  rw [other_known h] at hk
  exact absurd hk (by decide)
 all_goals
  rw [h] at x0 hP hR
  clear hk h
  first | rw [show partD _ = true from by decide] at hP | rw [show partD _ = false from by decide] at hP
  simp only [fieldsL, reduceCtorEq, if_true, if_false, Int.reduceEq, List.contains, List.elem, Int.reduceBEq] at hR
  try simp at hR
  try simp at hbp
 all_goals
  go_enter Tryz.func62, Tryz.ntmps62
  go_wp2_with (first
   | (go_at_call 34; refine hP.mono ?_; rintro e w' ⟨rfl, hW⟩; replace hW := hW.symm; subst hW)
   | (go_at_call 99; refine hB.mono ?_; rintro e w' ⟨rfl, hb⟩)
   | (go_at_call 100; refine hV.mono ?_; rintro e w' ⟨rfl, hb⟩)
   | (go_at_call 67; refine hC.mono ?_; rintro e w' ⟨rfl, hb⟩))
  go_ret
  refine ⟨ret_bool ?_, ?_⟩
  ·first | exact hR | (rw [← hR]; done) | (rw [← hR, hbp]; done) | (subst hR; simp_all; done) | simp_all
  ·first | exact hbb.trans (hb.mono hbb.size) | exact hbb
abbrev ZP100 (x0 : World) (x1 : List Value) : World := ((x0.alloc (.cells x1.toArray 33)).alloc (.cells #[.func (.func 101) #[] #[]] 160))
theorem pgreat_any (f : TxnF) (hf : f.Ok) (n : Nat) (A : Nat → Prop) (cs : List Value) (w : World) (h : TxnA A w f n cs) (hA : ∀ b, A b → b < w.heap.size) :
  Calls Tryz.prog 63 #[.agg cs.toArray] w fun e w' => e = .returned (.bool (great13 f n)) ∧ Below w.heap.size w w' := by
 have hb0 : Below w.heap.size w (w.alloc (.cells cs.toArray 33)) := (Below.refl w.heap.size w).alloc (Nat.le_refl _) _
 have hr0 : (w.alloc (.cells cs.toArray 33)).rangeAt w.heap.size 0 cs := st_range (heap_alloc_new w _)
 obtain ⟨vd, va, vi, vp, vs, hcs, h1, h2, h3, h4, rows, h5, hn5⟩ := h.ex
 have hbb : Below w.heap.size w (ZP100 w cs) := hb0.alloc (by simp) _
 have hr1 := range_below hr0 ((Below.refl (w.alloc (.cells cs.toArray 33)).heap.size (w.alloc (.cells cs.toArray 33))).alloc (Nat.le_refl _) (.cells #[.func (.func 101) #[] #[]] 160)) (by simp)
 have hlt1 : w.heap.size + 1 < (ZP100 w cs).heap.size := by simp
 have f3 : (ZP100 w cs).cell? ⟨w.heap.size + 1, 0, none⟩ = some (.func (.func 101) #[] #[]) := by
  have := heap_alloc_new (w.alloc (.cells cs.toArray 33)) (.cells #[.func (.func 101) #[] #[]] 160)
  rw [show (w.alloc (.cells cs.toArray 33)).heap.size = w.heap.size + 1 by simp] at this
  exact st_at this rfl
 have x2 : (ZP100 w cs).cell? ⟨w.heap.size, 2, none⟩ = some vd := hr1 2 _ (by rw [hcs]; rfl)
 have x3 : (ZP100 w cs).cell? ⟨w.heap.size, 3, none⟩ = some va := hr1 3 _ (by rw [hcs]; rfl)
 have x12 : (ZP100 w cs).cell? ⟨w.heap.size, 12, none⟩ = some vi := hr1 12 _ (by rw [hcs]; rfl)
 have x13 : (ZP100 w cs).cell? ⟨w.heap.size, 13, none⟩ = some vp := hr1 13 _ (by rw [hcs]; rfl)
 have x15 : (ZP100 w cs).cell? ⟨w.heap.size, 15, none⟩ = some vs := hr1 15 _ (by rw [hcs]; rfl)
 have hA1 : ∀ b, A b → b < (ZP100 w cs).heap.size := fun b hb' => Nat.lt_of_lt_of_le (hA b hb') hbb.size
 have hCa := containsAcl_any 103 #[.pointer (some ⟨w.heap.size + 1, 0, none⟩)] (enters_of Tryz.func103 (by kernel_rfl) rfl) (fun a => longI a.id) f.acl A va (ZP100 w cs) (h2.below hA hbb) hA1 hf.acl
  (fun W x hx hb => plongA_any x (w.heap.size + 1) W (hf.acl1 x hx).1 (hf.acl1 x hx).2 ((hb.cell (p := ⟨w.heap.size + 1, 0, none⟩) hlt1).trans f3))
 have hCi := fun (W : World) (hb : Below w.heap.size w W) => containsId_any 101 #[] (enters_of Tryz.func101 (by kernel_rfl) rfl) longI f.ids A vi W (h3.below hA hb) (fun b hb' => Nat.lt_of_lt_of_le (hA b hb') hb.size) hf.ids
  (fun W x hx _ => plong_any x W (hf.ids1 x hx).1 (hf.ids1 x hx).2)
 obtain ⟨R, hR⟩ : ∃ R, great13 f n = R := ⟨_, rfl⟩
 rw [hR]
 unfold great13 at hR
 generalize f.acl.any (fun a => longI a.id) = C1 at hCa hR
 generalize f.ids.any longI = C2 at hCi hR
 obtain ⟨s1, p1, rfl⟩ := h1.len'
 obtain ⟨s2, p2, rfl⟩ := h2.len'
 obtain ⟨s3, p3, rfl⟩ := h3.len'
 obtain ⟨s4, p4, rfl⟩ := h4.len'
 obtain ⟨s5, p5, rfl⟩ := h5.len'
 rw [List.length_map] at x2 x3 x12 x13 hCa
 simp only [List.length_map] at hCi
 rw [hn5] at x15
 obtain ⟨n1, hn1⟩ : ∃ n, f.data.length = n := ⟨_, rfl⟩
 obtain ⟨n2, hn2⟩ : ∃ n, f.acl.length = n := ⟨_, rfl⟩
 obtain ⟨n4, hn4⟩ : ∃ n, f.paths.length = n := ⟨_, rfl⟩
 obtain ⟨n3, hn3⟩ : ∃ n, f.ids.length = n := ⟨_, rfl⟩
 rw [hn1] at x2 hR
 rw [hn2] at x3 hCa hR
 rw [hn4] at x13 hR
 rw [hn3] at x12
 simp only [hn3] at hCi
 have HB := Lib.hid hbb
 have hlt0 : w.heap.size < (ZP100 w cs).heap.size := by simp; omega
 clear h h1 h2 h3 h4 h5 hn5 hcs hr0 hr1 hf hn1 hn2 hn3 hn4 hb0 hA1 hbb
 by_cases c0 : 1048575 < n1
 ·rw [decide_eq_true c0, Bool.true_or] at hR
  have c0z : (1048575 : Int) < n1 := by omega
  subst hR
  go_enter Tryz.func63, Tryz.ntmps63
  go_wp2_with (first
     | (go_at_call 102; refine hCa.mono ?_; rintro e wA ⟨rfl, hcA⟩; have hbA := HB.out.trans (hcA.mono HB.out.size); have x12A := (hcA.cell (p := ⟨w.heap.size, 12, none⟩) hlt0).trans x12; have f3A := (hcA.cell (p := ⟨w.heap.size + 1, 0, none⟩) hlt1).trans f3)
     | (go_at_call 104; refine (hCi _ hbA).mono ?_; rintro e wB ⟨rfl, hcB⟩; have hbB := hbA.trans (hcB.mono hbA.size)))
  go_ret
  exact ⟨rfl, HB.out⟩
 have c0z : ¬ (1048575 : Int) < n1 := by omega
 rw [decide_eq_false c0, Bool.false_or] at hR
 by_cases c1 : 16 < n2
 ·rw [decide_eq_true c1, Bool.true_or] at hR
  have c1z : (16 : Int) < n2 := by omega
  subst hR
  go_enter Tryz.func63, Tryz.ntmps63
  go_wp2_with (first
     | (go_at_call 102; refine hCa.mono ?_; rintro e wA ⟨rfl, hcA⟩; have hbA := HB.out.trans (hcA.mono HB.out.size); have x12A := (hcA.cell (p := ⟨w.heap.size, 12, none⟩) hlt0).trans x12; have f3A := (hcA.cell (p := ⟨w.heap.size + 1, 0, none⟩) hlt1).trans f3)
     | (go_at_call 104; refine (hCi _ hbA).mono ?_; rintro e wB ⟨rfl, hcB⟩; have hbB := hbA.trans (hcB.mono hbA.size)))
  go_ret
  exact ⟨rfl, HB.out⟩
 have c1z : ¬ (16 : Int) < n2 := by omega
 rw [decide_eq_false c1, Bool.false_or] at hR
 by_cases c2 : 1024 < n4
 ·rw [decide_eq_true c2, Bool.true_or] at hR
  have c2z : (1024 : Int) < n4 := by omega
  subst hR
  go_enter Tryz.func63, Tryz.ntmps63
  go_wp2_with (first
     | (go_at_call 102; refine hCa.mono ?_; rintro e wA ⟨rfl, hcA⟩; have hbA := HB.out.trans (hcA.mono HB.out.size); have x12A := (hcA.cell (p := ⟨w.heap.size, 12, none⟩) hlt0).trans x12; have f3A := (hcA.cell (p := ⟨w.heap.size + 1, 0, none⟩) hlt1).trans f3)
     | (go_at_call 104; refine (hCi _ hbA).mono ?_; rintro e wB ⟨rfl, hcB⟩; have hbB := hbA.trans (hcB.mono hbA.size)))
  go_ret
  exact ⟨rfl, HB.out⟩
 have c2z : ¬ (1024 : Int) < n4 := by omega
 rw [decide_eq_false c2, Bool.false_or] at hR
 by_cases c3 : 1024 < n
 ·rw [decide_eq_true c3, Bool.true_or] at hR
  have c3z : (1024 : Int) < n := by omega
  subst hR
  go_enter Tryz.func63, Tryz.ntmps63
  go_wp2_with (first
     | (go_at_call 102; refine hCa.mono ?_; rintro e wA ⟨rfl, hcA⟩; have hbA := HB.out.trans (hcA.mono HB.out.size); have x12A := (hcA.cell (p := ⟨w.heap.size, 12, none⟩) hlt0).trans x12; have f3A := (hcA.cell (p := ⟨w.heap.size + 1, 0, none⟩) hlt1).trans f3)
     | (go_at_call 104; refine (hCi _ hbA).mono ?_; rintro e wB ⟨rfl, hcB⟩; have hbB := hbA.trans (hcB.mono hbA.size)))
  go_ret
  exact ⟨rfl, HB.out⟩
 have c3z : ¬ (1024 : Int) < n := by omega
 rw [decide_eq_false c3, Bool.false_or] at hR
 cases C1 with
 | true =>
  rw [Bool.true_or] at hR
  subst hR
  go_enter Tryz.func63, Tryz.ntmps63
  go_wp2_with (first
     | (go_at_call 102; refine hCa.mono ?_; rintro e wA ⟨rfl, hcA⟩; have hbA := HB.out.trans (hcA.mono HB.out.size); have x12A := (hcA.cell (p := ⟨w.heap.size, 12, none⟩) hlt0).trans x12; have f3A := (hcA.cell (p := ⟨w.heap.size + 1, 0, none⟩) hlt1).trans f3)
     | (go_at_call 104; refine (hCi _ hbA).mono ?_; rintro e wB ⟨rfl, hcB⟩; have hbB := hbA.trans (hcB.mono hbA.size)))
  go_ret
  exact ⟨rfl, hbA⟩
 | false =>
  rw [Bool.false_or] at hR
  subst hR
  go_enter Tryz.func63, Tryz.ntmps63
  go_wp2_with (first
     | (go_at_call 102; refine hCa.mono ?_; rintro e wA ⟨rfl, hcA⟩; have hbA := HB.out.trans (hcA.mono HB.out.size); have x12A := (hcA.cell (p := ⟨w.heap.size, 12, none⟩) hlt0).trans x12; have f3A := (hcA.cell (p := ⟨w.heap.size + 1, 0, none⟩) hlt1).trans f3)
     | (go_at_call 104; refine (hCi _ hbA).mono ?_; rintro e wB ⟨rfl, hcB⟩; have hbB := hbA.trans (hcB.mono hbA.size)))
  go_ret
  exact ⟨rfl, hbB⟩
theorem heap_mid (w : World) (A B C : Obj) : (((w.alloc A).alloc B).alloc C).heap[w.heap.size + 1]? = some B := by
 have h1 := heap_alloc_new (w.alloc A) B
 rw [show (w.alloc A).heap.size = w.heap.size + 1 by simp] at h1
 have h2 := ((Below.refl ((w.alloc A).alloc B).heap.size ((w.alloc A).alloc B)).alloc (Nat.le_refl _) C).block (w.heap.size + 1) (by simp)
 rw [h2]; exact h1
set_option maxHeartbeats 1000000
theorem eqB_self (l : List UInt8) (A : Nat → Prop) (v : Value) (w : World) (h : SlR A w 1 v (l.map byteCells)) :
  Calls Tryz.prog 153 #[v, v] w fun e w' => e = .returned (.bool true) ∧ w' = w := by
 obtain ⟨s, q, rfl⟩ := h.len'
 have hc := conv_bytes h
 rw [List.length_map] at hc ⊢
 clear h
 go_enter Tryz.func153, Tryz.ntmps153
 go_wp2
 go_ret
 exact ⟨ret_bool (by simp), rfl⟩
theorem str_empty (l : List Int) (h : l ≠ []) : (strOfNums l).toList.isEmpty = false := by
 have : (strOfNums l).size ≠ 0 := by
  intro e
  apply h
  apply List.eq_nil_of_length_eq_zero
  rw [← e]
  simp [strOfNums, ByteArray.size]
 exact isEmpty_of this
theorem eqB_nil (l : List UInt8) (A : Nat → Prop) (v : Value) (w : World) (h : SlR A w 1 v (l.map byteCells)) :
  Calls Tryz.prog 153 #[v, .slice none 0 0] w fun e w' => e = .returned (.bool (decide (l.length = 0))) ∧ w' = w := by
 obtain ⟨s, q, rfl⟩ := h.len'
 have hc := conv_bytes h
 have h0 : (convert 22 9 (.slice none 0 0)).run Tryz.prog w = .ok (.string ⟨#[]⟩) w := run_convert_bytes_nil w 22 5 Tryz.underlying22 Tryz.underlying5 0 0 9 Tryz.underlying9
 rw [List.length_map] at hc ⊢
 clear h
 by_cases hl : l = []
 ·subst hl
  have hs : (strOfNums (([] : List UInt8).map fun b => (b.toNat : Int))) = ⟨#[]⟩ := rfl
  rw [hs] at hc
  rw [decide_eq_true (show ([] : List UInt8).length = 0 from rfl)]
  simp only [List.length_nil] at hc ⊢
  clear hs
  go_enter Tryz.func153, Tryz.ntmps153
  go_wp2
  go_ret
  exact ⟨ret_bool (by simp), rfl⟩
 ·have hs := str_empty (l.map fun b => (b.toNat : Int)) (by simpa using hl)
  rw [decide_eq_false (fun h => hl (List.eq_nil_of_length_eq_zero h))]
  generalize strOfNums (l.map fun b => (b.toNat : Int)) = S at hc hs
  go_enter Tryz.func153, Tryz.ntmps153
  go_wp2
  go_ret
  exact ⟨ret_bool (by simp), rfl⟩
theorem seqAcl_self (l : List AclD) (A : Nat → Prop) (v : Value) (w : World) (h : SlR A w 3 v (l.map AclD.cells)) (hm : l.length ≤ 1048576) :
  Calls Tryz.prog 154 #[v, v] w fun e w' => e = .returned (.bool true) ∧ ∃ m, w' = w.drewN m := by
 obtain ⟨n, hn⟩ : ∃ n, l.length = n := ⟨_, rfl⟩
 obtain ⟨s, q, rfl⟩ := h.len'
 rw [List.length_map, hn] at h ⊢
 rw [hn] at hm
 have HN := Lib.hid hn
 clear hn
 go_enter Tryz.func154, Tryz.ntmps154
 go_wp2
 go_loopw [4, 5, 13] (fun _ _ i W => ∃ k : Nat, k ≤ n ∧ i = .int .i64 k ∧ ∃ m, W = w.drewN m) (fun _ _ i _ => n - (intOf i).toNat)
 case atStart => exact ⟨0, Nat.zero_le _, rfl, 0, rfl⟩
 case round =>
  obtain ⟨k, hk, rfl, m, rfl⟩ := hrel
  by_cases hlt : k < n
  ·have hkl : k < l.length := by rw [HN.out]; exact hlt
   obtain ⟨x, hx⟩ : ∃ x, l[k]? = some x := ⟨_, List.getElem?_eq_getElem hkl⟩
   have hr : (l.map AclD.cells)[k]? = some (AclD.cells x) := by rw [List.getElem?_map, hx]; rfl
   obtain ⟨b1, o1, n1, q1, e1, _, r1⟩ := h.row hr
   cases e1
   have p0 := r1 0 (.int .i32 x.perms) rfl
   have p1 := r1 1 (.string x.id.scheme) rfl
   have p2 := r1 2 (.string x.id.id) rfl
   rw [Nat.add_zero] at p0
   have heq : ∀ w, (binOp .neq 81 (.agg #[.int .i32 x.perms, .string x.id.scheme, .string x.id.id]) (.agg #[.int .i32 x.perms, .string x.id.scheme, .string x.id.id])).run Tryz.prog w = .ok (.bool false) w := fun w => by have := neq_acl x x w; rw [(eqAclD_iff x x).2 rfl] at this; exact this
   clear hr hx r1
   go_wp2
   go_quiet (fail)
   go_wp2
   go_roundw
   case rel => exact ⟨k + 1, by omega, by go_num, _, rfl⟩
   case measure => simp [intOf]; omega
  ·obtain rfl : k = n := by omega
   go_wp2
   go_ret
   exact ⟨rfl, m, rfl⟩
theorem seqAcl_nil (l : List AclD) (A : Nat → Prop) (v : Value) (w : World) (h : SlR A w 3 v (l.map AclD.cells)) :
  Calls Tryz.prog 154 #[v, .slice none 0 0] w fun e w' => e = .returned (.bool (decide (l.length = 0))) ∧ w' = w := by
 obtain ⟨n, hn⟩ : ∃ n, l.length = n := ⟨_, rfl⟩
 obtain ⟨s, q, rfl⟩ := h.len'
 rw [List.length_map, hn]
 clear h
 by_cases h0 : n = 0
 ·subst h0
  go_enter Tryz.func154, Tryz.ntmps154
  go_wp2
  go_loop [4, 5, 13] (fun _ _ i => i = .int .i64 0) (fun _ _ _ => 0)
  case atStart => rfl
  case round =>
   obtain rfl := hrel
   go_wp2
   go_ret
   exact ⟨rfl, rfl⟩
 ·have hz : ((n : Int) == 0) = false := by simp; omega
  rw [decide_eq_false h0]
  go_enter Tryz.func154, Tryz.ntmps154
  go_wp2
  go_ret
  exact ⟨rfl, rfl⟩
theorem seqId_self (l : List IdD) (A : Nat → Prop) (v : Value) (w : World) (h : SlR A w 2 v (l.map IdD.cells)) (hm : l.length ≤ 1048576) :
  Calls Tryz.prog 155 #[v, v] w fun e w' => e = .returned (.bool true) ∧ ∃ m, w' = w.drewN m := by
 obtain ⟨n, hn⟩ : ∃ n, l.length = n := ⟨_, rfl⟩
 obtain ⟨s, q, rfl⟩ := h.len'
 rw [List.length_map, hn] at h ⊢
 rw [hn] at hm
 have HN := Lib.hid hn
 clear hn
 go_enter Tryz.func155, Tryz.ntmps155
 go_wp2
 go_loopw [4, 5, 13] (fun _ _ i W => ∃ k : Nat, k ≤ n ∧ i = .int .i64 k ∧ ∃ m, W = w.drewN m) (fun _ _ i _ => n - (intOf i).toNat)
 case atStart => exact ⟨0, Nat.zero_le _, rfl, 0, rfl⟩
 case round =>
  obtain ⟨k, hk, rfl, m, rfl⟩ := hrel
  by_cases hlt : k < n
  ·have hkl : k < l.length := by rw [HN.out]; exact hlt
   obtain ⟨x, hx⟩ : ∃ x, l[k]? = some x := ⟨_, List.getElem?_eq_getElem hkl⟩
   have hr : (l.map IdD.cells)[k]? = some (IdD.cells x) := by rw [List.getElem?_map, hx]; rfl
   obtain ⟨b1, o1, n1, q1, e1, _, r1⟩ := h.row hr
   cases e1
   have p0 := r1 0 (.string x.scheme) rfl
   have p1 := r1 1 (.string x.id) rfl
   rw [Nat.add_zero] at p0
   have heq : ∀ w, (binOp .neq 79 (.agg #[.string x.scheme, .string x.id]) (.agg #[.string x.scheme, .string x.id])).run Tryz.prog w = .ok (.bool false) w := fun w => by have := neq_id x x w; rw [(eqIdD_iff x x).2 rfl] at this; exact this
   clear hr hx r1
   go_wp2
   go_quiet (fail)
   go_wp2
   go_roundw
   case rel => exact ⟨k + 1, by omega, by go_num, _, rfl⟩
   case measure => simp [intOf]; omega
  ·obtain rfl : k = n := by omega
   go_wp2
   go_ret
   exact ⟨rfl, m, rfl⟩
theorem seqId_nil (l : List IdD) (A : Nat → Prop) (v : Value) (w : World) (h : SlR A w 2 v (l.map IdD.cells)) :
  Calls Tryz.prog 155 #[v, .slice none 0 0] w fun e w' => e = .returned (.bool (decide (l.length = 0))) ∧ w' = w := by
 obtain ⟨n, hn⟩ : ∃ n, l.length = n := ⟨_, rfl⟩
 obtain ⟨s, q, rfl⟩ := h.len'
 rw [List.length_map, hn]
 clear h
 by_cases h0 : n = 0
 ·subst h0
  go_enter Tryz.func155, Tryz.ntmps155
  go_wp2
  go_loop [4, 5, 13] (fun _ _ i => i = .int .i64 0) (fun _ _ _ => 0)
  case atStart => rfl
  case round =>
   obtain rfl := hrel
   go_wp2
   go_ret
   exact ⟨rfl, rfl⟩
 ·have hz : ((n : Int) == 0) = false := by simp; omega
  rw [decide_eq_false h0]
  go_enter Tryz.func155, Tryz.ntmps155
  go_wp2
  go_ret
  exact ⟨rfl, rfl⟩
theorem seqStr_self (l : List ByteArray) (A : Nat → Prop) (v : Value) (w : World) (h : SlR A w 1 v (l.map strCells)) (hm : l.length ≤ 1048576) :
  Calls Tryz.prog 156 #[v, v] w fun e w' => e = .returned (.bool true) ∧ ∃ m, w' = w.drewN m := by
 obtain ⟨n, hn⟩ : ∃ n, l.length = n := ⟨_, rfl⟩
 obtain ⟨s, q, rfl⟩ := h.len'
 rw [List.length_map, hn] at h ⊢
 rw [hn] at hm
 have HN := Lib.hid hn
 clear hn
 go_enter Tryz.func156, Tryz.ntmps156
 go_wp2
 go_loopw [4, 5, 13] (fun _ _ i W => ∃ k : Nat, k ≤ n ∧ i = .int .i64 k ∧ ∃ m, W = w.drewN m) (fun _ _ i _ => n - (intOf i).toNat)
 case atStart => exact ⟨0, Nat.zero_le _, rfl, 0, rfl⟩
 case round =>
  obtain ⟨k, hk, rfl, m, rfl⟩ := hrel
  by_cases hlt : k < n
  ·have hkl : k < l.length := by rw [HN.out]; exact hlt
   obtain ⟨x, hx⟩ : ∃ x, l[k]? = some x := ⟨_, List.getElem?_eq_getElem hkl⟩
   have hr : (l.map strCells)[k]? = some (strCells x) := by rw [List.getElem?_map, hx]; rfl
   obtain ⟨b1, o1, n1, q1, e1, _, r1⟩ := h.row hr
   cases e1
   have p0 := r1 0 (.string x) rfl
   rw [Nat.add_zero, Nat.mul_one] at p0
   skip
   clear hr hx r1
   go_wp2
   go_quiet (fail)
   go_wp2
   go_roundw
   case rel => exact ⟨k + 1, by omega, by go_num, _, rfl⟩
   case measure => simp [intOf]; omega
  ·obtain rfl : k = n := by omega
   go_wp2
   go_ret
   exact ⟨rfl, m, rfl⟩
theorem seqStr_nil (l : List ByteArray) (A : Nat → Prop) (v : Value) (w : World) (h : SlR A w 1 v (l.map strCells)) :
  Calls Tryz.prog 156 #[v, .slice none 0 0] w fun e w' => e = .returned (.bool (decide (l.length = 0))) ∧ w' = w := by
 obtain ⟨n, hn⟩ : ∃ n, l.length = n := ⟨_, rfl⟩
 obtain ⟨s, q, rfl⟩ := h.len'
 rw [List.length_map, hn]
 clear h
 by_cases h0 : n = 0
 ·subst h0
  go_enter Tryz.func156, Tryz.ntmps156
  go_wp2
  go_loop [4, 5, 13] (fun _ _ i => i = .int .i64 0) (fun _ _ _ => 0)
  case atStart => rfl
  case round =>
   obtain rfl := hrel
   go_wp2
   go_ret
   exact ⟨rfl, rfl⟩
 ·have hz : ((n : Int) == 0) = false := by simp; omega
  rw [decide_eq_false h0]
  go_enter Tryz.func156, Tryz.ntmps156
  go_wp2
  go_ret
  exact ⟨rfl, rfl⟩
set_option maxHeartbeats 64000000
def plainB (f g : TxnF) (d1 d2 d3 d4 : Bool) : Bool := f.path.toList == g.path.toList && (d1 && (d2 && (f.owner == g.owner && (f.version == g.version && (f.creates == g.creates && (eqQuotaD f.has g.has f.count g.count f.bytes g.bytes && (f.sid == g.sid && (f.timeout == g.timeout && (d3 && (d4 && f.code == g.code))))))))))
theorem plain_gen (f g : TxnF) (hg : g.type = f.type) (v1 v2 v3 v4 v5 u1 u2 u3 u4 u5 : Value) (d1 d2 d3 d4 : Bool) (w : World)
  (cD : ∀ W, Below w.heap.size w W → Calls Tryz.prog 153 #[v1, u1] W fun e w' => e = .returned (.bool d1) ∧ ∃ m, w' = W.drewN m)
  (cA : ∀ W, Below w.heap.size w W → Calls Tryz.prog 154 #[v2, u2] W fun e w' => e = .returned (.bool d2) ∧ ∃ m, w' = W.drewN m)
  (cI : ∀ W, Below w.heap.size w W → Calls Tryz.prog 155 #[v3, u3] W fun e w' => e = .returned (.bool d3) ∧ ∃ m, w' = W.drewN m)
  (cP : ∀ W, Below w.heap.size w W → Calls Tryz.prog 156 #[v4, u4] W fun e w' => e = .returned (.bool d4) ∧ ∃ m, w' = W.drewN m) :
  Calls Tryz.prog 107 #[.agg (f.cells v1 v2 v3 v4 v5).toArray, .agg (g.cells u1 u2 u3 u4 u5).toArray] w fun e w' => e = .returned (.bool (plainB f g d1 d2 d3 d4)) ∧ Below w.heap.size w w' := by
 obtain ⟨cs, hcs⟩ : ∃ cs, f.cells v1 v2 v3 v4 v5 = cs := ⟨_, rfl⟩
 obtain ⟨ks, hks⟩ : ∃ ks, g.cells u1 u2 u3 u4 u5 = ks := ⟨_, rfl⟩
 rw [hcs, hks]
 have HB : Below w.heap.size w ((w.alloc (.cells cs.toArray 33)).alloc (.cells ks.toArray 33)) := ((Below.refl w.heap.size w).alloc (Nat.le_refl _) _).alloc (by simp) _
 replace HB := Lib.hid HB
 have hrA : ((w.alloc (.cells cs.toArray 33)).alloc (.cells ks.toArray 33)).rangeAt w.heap.size 0 cs := range_below (st_range (heap_alloc_new w _)) ((Below.refl (w.alloc (.cells cs.toArray 33)).heap.size (w.alloc (.cells cs.toArray 33))).alloc (Nat.le_refl _) _) (by simp)
 have hrB : ((w.alloc (.cells cs.toArray 33)).alloc (.cells ks.toArray 33)).rangeAt (w.heap.size + 1) 0 ks := by
  have := heap_alloc_new (w.alloc (.cells cs.toArray 33)) (.cells ks.toArray 33)
  rw [show (w.alloc (.cells cs.toArray 33)).heap.size = w.heap.size + 1 by simp] at this
  exact st_range this
 unfold TxnF.cells at hcs hks
 replace hrA := rows15 hcs.symm hrA
 rw [hg] at hks
 replace hrB := rows15 hks.symm hrB
 obtain ⟨X0, X1, X2, X3, X4, X5, X6, X7, X8, X9, X10, X11, X12, X13, X14⟩ := hrA
 obtain ⟨Y0, Y1, Y2, Y3, Y4, Y5, Y6, Y7, Y8, Y9, Y10, Y11, Y12, Y13, Y14⟩ := hrB
 clear hcs hks
 have hq7 := eql_quota f.has g.has f.count g.count f.bytes g.bytes
 obtain ⟨R, hR⟩ : ∃ R, plainB f g d1 d2 d3 d4 = R := ⟨_, rfl⟩
 rw [hR]
 unfold plainB at hR
 generalize eqQuotaD f.has g.has f.count g.count f.bytes g.bytes = e7 at hR hq7
 obtain ⟨b1, hb1⟩ : ∃ e, (f.path.toList == g.path.toList) = e := ⟨_, rfl⟩
 obtain ⟨e4, he4⟩ : ∃ e, (f.owner == g.owner) = e := ⟨_, rfl⟩
 obtain ⟨e5, he5⟩ : ∃ e, (f.creates == g.creates) = e := ⟨_, rfl⟩
 obtain ⟨e6, he6⟩ : ∃ e, (f.version == g.version) = e := ⟨_, rfl⟩
 obtain ⟨e9, he9⟩ : ∃ e, (f.code == g.code) = e := ⟨_, rfl⟩
 obtain ⟨e11, he11⟩ : ∃ e, (f.sid == g.sid) = e := ⟨_, rfl⟩
 obtain ⟨e12, he12⟩ : ∃ e, (f.timeout == g.timeout) = e := ⟨_, rfl⟩
 rw [hb1, he4, he5, he6, he9, he11, he12] at hR
 cases b1; rotate_left
 cases d1; rotate_left
 cases d2; rotate_left
 cases e4; rotate_left
 cases e6; rotate_left
 cases e5; rotate_left
 cases e7; rotate_left
 cases e11; rotate_left
 cases e12; rotate_left
 cases d3; rotate_left
 cases d4; rotate_left
 cases e9; rotate_left
 all_goals
  (simp only [Bool.and_true, Bool.true_and, Bool.false_and] at hR; subst hR)
  go_enter Tryz.func107, Tryz.ntmps107
  simp only [List.append]
  go_wp2_with (first
   | (go_at_call 153; refine (cD _ (by first | exact HB.out | exact below_drewN' HB.out _ | exact below_drewN' (below_drewN' HB.out _) _ | exact below_drewN' (below_drewN' (below_drewN' HB.out _) _) _ | exact below_drewN' (below_drewN' (below_drewN' (below_drewN' HB.out _) _) _) _)).mono ?_; rintro e w' ⟨rfl, m1, rfl⟩; dsimp only)
   | (go_at_call 154; refine (cA _ (by first | exact HB.out | exact below_drewN' HB.out _ | exact below_drewN' (below_drewN' HB.out _) _ | exact below_drewN' (below_drewN' (below_drewN' HB.out _) _) _ | exact below_drewN' (below_drewN' (below_drewN' (below_drewN' HB.out _) _) _) _)).mono ?_; rintro e w' ⟨rfl, m2, rfl⟩; dsimp only)
   | (go_at_call 155; refine (cI _ (by first | exact HB.out | exact below_drewN' HB.out _ | exact below_drewN' (below_drewN' HB.out _) _ | exact below_drewN' (below_drewN' (below_drewN' HB.out _) _) _ | exact below_drewN' (below_drewN' (below_drewN' (below_drewN' HB.out _) _) _) _)).mono ?_; rintro e w' ⟨rfl, m3, rfl⟩; dsimp only)
   | (go_at_call 156; refine (cP _ (by first | exact HB.out | exact below_drewN' HB.out _ | exact below_drewN' (below_drewN' HB.out _) _ | exact below_drewN' (below_drewN' (below_drewN' HB.out _) _) _ | exact below_drewN' (below_drewN' (below_drewN' (below_drewN' HB.out _) _) _) _)).mono ?_; rintro e w' ⟨rfl, m4, rfl⟩; dsimp only))
  go_ret
  exact ⟨rfl, (by first | exact HB.out | exact below_drewN' HB.out _ | exact below_drewN' (below_drewN' HB.out _) _ | exact below_drewN' (below_drewN' (below_drewN' HB.out _) _) _ | exact below_drewN' (below_drewN' (below_drewN' (below_drewN' HB.out _) _) _) _)⟩
theorem porder_any (a b : ByteArray) (w : World) :
  Calls Tryz.prog 108 #[.string a, .string b] w fun e w' => e = .returned (.int .i64 (Lib.compareBytes a.data.toList b.data.toList)) ∧ w' = w := by
 have hC := Tryz.strings_Compare a b w
 go_enter Tryz.func108, Tryz.ntmps108
 go_wp2_with (go_at_call 157; refine hC.mono ?_; rintro e w' ⟨rfl, rfl⟩)
 go_ret
 exact ⟨rfl, rfl⟩
theorem wrap_small (j : Nat) (h : j ≤ 1048576) : IntKind.i64.wrap (j : Int) = (j : Int) := by rw [IntKind.wrap_i64]; omega
theorem wrap_back (j : Nat) (h : j ≤ 1048576) : wrap64 ((j : Int) + 1 - 1) = (j : Int) := by rw [IntWalk.wrap64_in _ (by omega)]; omega
theorem spare_split (f : TxnF) (n : Nat) : spare13 f n = (spare13 f 0 || (!hasF f.type 109 && decide (0 < n))) := by
 unfold spare13
 generalize (!hasF f.type 112 && !f.path.toList.isEmpty) = x1
 generalize (!hasF f.type 100 && decide (0 < f.data.length)) = x2
 generalize (!hasF f.type 97 && decide (0 < f.acl.length)) = x3
 generalize (!hasF f.type 111 && f.owner != 0) = x4
 generalize (!hasF f.type 110 && f.creates != 0) = x5
 generalize (!hasF f.type 118 && f.version != 0) = x6
 generalize (!hasF f.type 113 && !eqQuotaD f.has false f.count 0 f.bytes 0) = x7
 generalize (!hasF f.type 108 && decide (0 < f.paths.length)) = x8
 generalize (!hasF f.type 99 && f.code != 0) = x9
 generalize (!hasF f.type 109 && decide (0 < n)) = x10
 generalize (!hasF f.type 115 && (f.sid != 0 || (f.timeout != 0 || decide (0 < f.ids.length)))) = x11
 rw [show (!hasF f.type 109 && decide (0 < 0)) = false by simp]
 cases x1 <;> cases x2 <;> cases x3 <;> cases x4 <;> cases x5 <;> cases x6 <;> cases x7 <;> cases x8 <;> cases x9 <;> cases x10 <;> cases x11 <;> rfl
theorem spare_paths (f : TxnF) (n : Nat) (h : spare13 f n = false) (hp : hasF f.type 108 = false) : f.paths = [] := by
 unfold spare13 at h
 simp only [Bool.or_eq_false_iff, hp, Bool.not_false, Bool.true_and, decide_eq_false_iff_not] at h
 exact List.eq_nil_of_length_eq_zero (by omega)
theorem wpList_store_new {P : Program} {ops : Array Oper} {rest : List Oper} {op : Oper} {a : Act} {W : World} {Q : Exit → Act → World → Prop} (hgd : op.guard = none) (ty : TypeId) (x y : Operand) (ho : op.op = .store ty x y)
  (c c' : Array Value) (hx : a.eval x = .pointer (some ⟨W.heap.size, 0, none⟩)) (hy : a.eval y = .agg c') (hi : (P.info? ty).map (·.size) = some c'.size) (hs : c.size = c'.size) (h1 : c'.all (·.oneCell') = true)
  (h : wpList P ops Q rest (a.put op.dst undef) (W.alloc (.cells c' ty))) : wpList P ops Q (op :: rest) a (W.alloc (.cells c ty)) :=
 wpList_plain hgd fun _ hK => by
  unfold Oper.wp execOp
  simp only [ho, hx, hy, Instr.storeAt, Instr.sureAddr, Sem.run_bind, Sem.run_pure, Result.andThen_ok, run_storeVar_new W ty c c' hi hs h1]
  exact hK _ _ h
theorem new_range (w : World) (ks : List Value) (T : TypeId) : (w.alloc (.cells ks.toArray T)).rangeAt w.heap.size 0 ks := by
 have := st_range (heap_alloc_new w (.cells ks.toArray T))
 rwa [List.toList_toArray] at this
def keptV (t : Int) (c : UInt8) (v : Value) : Value := bif hasF t c then v else .slice none 0 0
def keptF (f : TxnF) : TxnF := { f with path := bif hasF f.type 112 then f.path else ⟨#[]⟩, owner := bif hasF f.type 111 then f.owner else 0, version := bif hasF f.type 118 then f.version else 0, creates := bif hasF f.type 110 then f.creates else 0, has := bif hasF f.type 113 then f.has else false, count := bif hasF f.type 113 then f.count else 0, bytes := bif hasF f.type 113 then f.bytes else 0, sid := bif hasF f.type 115 then f.sid else 0, timeout := bif hasF f.type 115 then f.timeout else 0, code := bif hasF f.type 99 then f.code else 0 }
def keptC (f : TxnF) (v1 v2 v3 v4 v5 : Value) : List Value := (keptF f).cells (keptV f.type 100 v1) (keptV f.type 97 v2) (keptV f.type 115 v3) (keptV f.type 108 v4) (keptV f.type 109 v5)
def Kept106 (t : Int) : Prop := ∀ (f : TxnF) (a1 a2 a3 a4 a5 : Option Addr) (n1 n2 n3 n4 n5 c1 c2 c3 c4 c5 : Nat) (w : World), f.type = t →
    Calls Tryz.prog 106 #[.agg (f.cells (.slice a1 n1 c1) (.slice a2 n2 c2) (.slice a3 n3 c3) (.slice a4 n4 c4) (.slice a5 n5 c5)).toArray] w fun e w' => e = .returned (.agg (keptC f (.slice a1 n1 c1) (.slice a2 n2 c2) (.slice a3 n3 c3) (.slice a4 n4 c4) (.slice a5 n5 c5)).toArray) ∧ Below w.heap.size w w'
end Go.Proofs.YtfgjiidbafdndaaGreatDoor
