/- Contracts: numbers and addresses, identities, as the program tells them. -/
import Derived.Test.YtfgjiidbafdndaaGreatDoorK8
import Derived.Lib.SmallJoins
import Derived.Lib.AppendIntMem
import Derived.Test.YtfgjiidbafdndaaGreatDoorK7
namespace Go.Proofs.YtfgjiidbafdndaaGreatDoor
open Go.RowKit
set_option maxHeartbeats 4000000
theorem pdec_any (s : ByteArray) (w : World) (hs : s.size ≤ 1048576) (G : Glob w) :
  Calls Tryz.prog 219 #[.string s, .int .i64 255] w fun e w' => e = .returned (.int .i64 (numD s.data.toList)) ∧ Below w.heap.size w w' := by
 rw [← numA_eq]
 cases hA : Lib.atoiAll s.data.toList with
 | ok v =>
  have hn : numA s.data.toList = if v < 0 ∨ 255 < v ∨ Lib.itoa v ≠ s.data.toList then -1 else v := by unfold numA; rw [hA]
  have hc : Calls Tryz.prog 254 #[.string s] w _ := Any.strconv_Atoi_ok Tryz.laysC172 s (by omega) v hA w
  have hc' : Calls Tryz.prog 254 #[.string s] w fun e w' => e = .returned (.tuple #[.int .i64 v, .nilIface]) ∧ Below w.heap.size w w' := hc.mono (by
   rintro e w' ⟨rfl, h⟩
   refine ⟨rfl, ?_⟩
   rcases h with rfl | ⟨t, rfl⟩
   ·exact Below.refl _ _
   ·exact Joins.below_bytesWorld _ _ _ _ (Nat.le_refl _))
  rw [hn]
  clear hn hA hc
  by_cases c1 : v < 0
  ·rw [if_pos (.inl c1)]
   go_enter Tryz.func219, Tryz.ntmps219
   go_wp2_with (go_at_call 254; refine hc'.mono ?_; rintro e w1 ⟨rfl, hb1⟩)
   go_ret
   exact ⟨rfl, hb1⟩
  by_cases c2 : 255 < v
  ·rw [if_pos (.inr (.inl c2))]
   go_enter Tryz.func219, Tryz.ntmps219
   go_wp2_with (go_at_call 254; refine hc'.mono ?_; rintro e w1 ⟨rfl, hb1⟩)
   go_ret
   exact ⟨rfl, hb1⟩
  have hi : ∀ w1, Below w.heap.size w w1 → Calls Tryz.prog 255 #[.int .i64 v] w1 fun e w' => e = .returned (.string ⟨(Lib.itoa v).toArray⟩) ∧ Below w1.heap.size w1 w' := fun w1 hb =>
   (Any.strconv_Itoa Tryz.laysM171 v (by omega) (by omega) w1 ((G.below hb).tabIs _ (by kernel_rfl))).mono (by
    rintro e w' ⟨rfl, k, os, rfl⟩
    exact ⟨rfl, Lib.below_grow _ _ (Nat.le_refl _) _ _⟩)
  have hcmp : ((⟨(Lib.itoa v).toArray⟩ : ByteArray).toList == s.toList) = decide (Lib.itoa v = s.data.toList) := by
   rw [ByteArray.toList_eq, ByteArray.toList_eq, List.toList_toArray]
   rw [Bool.eq_iff_iff]; simp
  obtain ⟨p, hp⟩ : ∃ p : ByteArray, (⟨(Lib.itoa v).toArray⟩ : ByteArray) = p := ⟨_, rfl⟩
  rw [hp] at hi hcmp
  clear hp
  by_cases c3 : Lib.itoa v = s.data.toList
  ·rw [if_neg (by rintro (h | h | h); exact c1 h; exact c2 h; exact h c3)]
   rw [decide_eq_true c3] at hcmp
   clear c3
   go_enter Tryz.func219, Tryz.ntmps219
   go_wp2_with (first
    | (go_at_call 254; refine hc'.mono ?_; rintro e w1 ⟨rfl, hb1⟩)
    | (go_at_call 255; refine (hi _ hb1).mono ?_; rintro e w2 ⟨rfl, hb2⟩))
   go_ret
   exact ⟨rfl, hb1.trans (hb2.mono hb1.size)⟩
  ·rw [if_pos (.inr (.inr c3))]
   rw [decide_eq_false c3] at hcmp
   clear c3
   go_enter Tryz.func219, Tryz.ntmps219
   go_wp2_with (first
    | (go_at_call 254; refine hc'.mono ?_; rintro e w1 ⟨rfl, hb1⟩)
    | (go_at_call 255; refine (hi _ hb1).mono ?_; rintro e w2 ⟨rfl, hb2⟩))
   go_ret
   exact ⟨rfl, hb1.trans (hb2.mono hb1.size)⟩
 | range =>
  have hn : numA s.data.toList = -1 := by unfold numA; rw [hA]
  obtain ⟨ev, hv, hev⟩ := G.rng
  have hc : Calls Tryz.prog 254 #[.string s] w _ := Any.strconv_Atoi_range Tryz.laysC172 s (by omega) hA ev w hv hev
  clear hv hev
  rw [hn]
  go_enter Tryz.func219, Tryz.ntmps219
  go_wp2_with (go_at_call 254; refine hc.mono ?_; rintro e w1 ⟨N, rfl, hN, hcell, hb1⟩)
  go_ret
  exact ⟨rfl, hb1⟩
 | _ =>
  have hn : numA s.data.toList = -1 := by unfold numA; rw [hA]
  obtain ⟨ev, hv, hev⟩ := G.syn
  have hc : Calls Tryz.prog 254 #[.string s] w _ := Any.strconv_Atoi_syntax Tryz.laysC172 s (by omega) hA ev w hv hev
  clear hv hev
  rw [hn]
  go_enter Tryz.func219, Tryz.ntmps219
  go_wp2_with (go_at_call 254; refine hc.mono ?_; rintro e w1 ⟨N, rfl, hN, hcell, hb1⟩)
  go_ret
  exact ⟨rfl, hb1⟩
theorem split_sizes (sep : ByteArray) : ∀ (k : Nat) (s : ByteArray), ∀ p ∈ Lib.splitB sep 0 k s, p.size ≤ s.size
 | 0, s, p, h => by
  rw [Lib.splitB_zero, List.mem_singleton] at h
  rw [h]; exact Nat.le_refl _
 | k + 1, s, p, h => by
  unfold Lib.splitB at h
  split at h
  ·rw [List.mem_singleton] at h
   rw [h]; exact Nat.le_refl _
  ·rcases List.mem_cons.1 h with h | h
   ·rw [h, ByteArray.size_extract]; omega
   ·have := split_sizes sep k _ p h
    rw [ByteArray.size_extract] at this; omega
theorem paddr_any (s : ByteArray) (w : World) (hs : s.size ≤ 1048576) (G : Glob w) :
  Calls Tryz.prog 191 #[.string s] w fun e w' => AddrPost (addrL s.data.toList) e ∧ Below w.heap.size w w' := by
 obtain ⟨m, hm⟩ := G.max
 have hS : Calls Tryz.prog 218 #[.string s, .string ⟨#[46]⟩] w fun e w' => e = .returned (.slice (some ⟨w.heap.size, 0, none⟩) (Lib.countB s ⟨#[46]⟩ + 1) (Lib.countB s ⟨#[46]⟩ + 1)) ∧ w' = w.alloc (.cells ((Lib.splitB ⟨#[46]⟩ 0 (Lib.countB s ⟨#[46]⟩) s).map Value.string).toArray 9) := Any.strings_Split Tryz.lays146 (by kernel_rfl) s ⟨#[46]⟩ m w (by omega) hm (by decide)
 clear hm
 obtain ⟨l, hl⟩ : ∃ l, Lib.splitB ⟨#[46]⟩ 0 (Lib.countB s ⟨#[46]⟩) s = l := ⟨_, rfl⟩
 have hlen : l.length = Lib.countB s ⟨#[46]⟩ + 1 := by rw [← hl]; exact Lib.splitB_all ⟨#[46]⟩ (by decide) 0 _ s rfl
 have hsz : ∀ p ∈ l, p.size ≤ 1048576 := by rw [← hl]; exact fun p hp => Nat.le_trans (split_sizes _ _ s p hp) hs
 have hD : (decide (l.length = 4) && l.all fun p => decide (0 ≤ numD p.data.toList)) = addrL s.data.toList := by
  rw [← addr_lib]
  have : Lib.split s.data.toList [46] = l.map (·.data.toList) := by rw [← hl, Lib.splitB_data]; rfl
  rw [this, List.length_map, List.all_map]
  congr 1
  congr 1
  funext p
  simp [numA_eq]
 rw [hl, ← hlen] at hS
 obtain ⟨R, hR⟩ : ∃ R, addrL s.data.toList = R := ⟨_, rfl⟩
 rw [hR] at hD ⊢
 clear hR hl
 obtain ⟨n, hn⟩ : ∃ n, l.length = n := ⟨_, rfl⟩
 rw [hn] at hS hD
 have HN := Lib.hid hn
 clear hlen hn
 by_cases h4 : n = 4
 case neg =>
  rw [decide_eq_false h4, Bool.false_and] at hD
  subst hD
  have h4z : ((n : Int) == 4) = false := by simp; omega
  clear h4
  go_enter Tryz.func191, Tryz.ntmps191
  go_wp2_with (go_at_call 218; refine hS.mono ?_; rintro e w1 ⟨rfl, hw⟩)
  go_ret2
  subst hw
  exact ⟨addr_post, (Below.refl _ _).alloc (Nat.le_refl _) _⟩
 subst h4
 rw [decide_eq_true rfl, Bool.true_and] at hD
 have HD := Lib.hid hD
 clear hD
 have hcell : ∀ (k : Nat) (x : ByteArray), l[k]? = some x → (w.alloc (.cells (l.map Value.string).toArray 9)).cell? ⟨w.heap.size, k, none⟩ = some (.string x) := fun k x hk =>
  st_at (heap_alloc_new w _) (by rw [List.getElem?_toArray, List.getElem?_map, hk]; rfl)
 have HC := Lib.hid hcell
 have hb1 : Below w.heap.size w (w.alloc (.cells (l.map Value.string).toArray 9)) := (Below.refl _ _).alloc (Nat.le_refl _) _
 have hsz1 : w.heap.size < (w.alloc (.cells (l.map Value.string).toArray 9)).heap.size := by simp
 generalize w.alloc (.cells (l.map Value.string).toArray 9) = W1 at HC hb1 hsz1 hS
 clear hcell
 go_enter Tryz.func191, Tryz.ntmps191
 go_wp2_with (go_at_call 218; refine hS.mono ?_; rintro e w1 ⟨rfl, hw⟩; replace hw := hw.symm; subst hw)
 go_loopw [2, 3, 5, 7, 8, 16] (fun _ _ a _ _ i wr => ∃ (k : Nat) (x : Int), k ≤ 4 ∧ i = .int .i64 k ∧ a = .int .u32 x ∧ RowKit.Hid (Below W1.heap.size W1 wr) ∧ RowKit.Hid (((l.drop k).all fun p => decide (0 ≤ numD p.data.toList)) = R)) (fun _ _ _ _ _ i _ => 4 - (intOf i).toNat)
 case atStart => exact ⟨0, 0, by decide, rfl, rfl, Lib.hid (Below.refl _ _), HD⟩
 case round =>
  obtain ⟨k, x, hk, rfl, rfl, HB, HP⟩ := hrel
  clear HD
  by_cases hlt : k < 4
  ·have hkl : k < l.length := by rw [HN.out]; exact hlt
   obtain ⟨p, hp⟩ : ∃ p, l[k]? = some p := ⟨_, List.getElem?_eq_getElem hkl⟩
   have hpl : l[k] = p := (List.getElem?_eq_some_iff.1 hp).2
   have c1 : wr.cell? ⟨w.heap.size, k, none⟩ = some (.string p) := (HB.out.cell (p := ⟨w.heap.size, k, none⟩) hsz1).trans (HC.out k p hp)
   have hd := pdec_any p wr (hsz p (List.mem_of_getElem? hp)) (G.below (hb1.trans (HB.out.mono hb1.size)))
   have hx := HP.out
   rw [List.drop_eq_getElem_cons hkl, List.all_cons, hpl] at hx
   generalize numD p.data.toList = d at hx hd
   have HBW := Lib.hid (hb1.trans (HB.out.mono hb1.size))
   clear HP hp hpl
   by_cases hd0 : d < 0
   ·rw [decide_eq_false (by omega), Bool.false_and] at hx
    subst hx
    go_wp2_with (go_at_call 219; refine hd.mono ?_; rintro e w2 ⟨rfl, hb2⟩)
    go_ret2
    exact ⟨addr_post, HBW.out.trans (hb2.mono HBW.out.size)⟩
   ·rw [decide_eq_true (by omega), Bool.true_and] at hx
    have HX := Lib.hid hx
    clear hx
    go_wp2_with (go_at_call 219; refine hd.mono ?_; rintro e w2 ⟨rfl, hb2⟩)
    go_roundw
    case rel => exact ⟨k + 1, _, by omega, by go_num, rfl, Lib.hid (HB.out.trans (hb2.mono HB.out.size)), HX⟩
    case measure => simp [intOf]; omega
  ·obtain rfl : k = 4 := by omega
   have hx := HP.out
   rw [List.drop_of_length_le (by rw [HN.out]; exact Nat.le_refl _), List.all_nil] at hx
   subst hx
   clear HP
   go_wp2
   go_ret2
   exact ⟨addr_post, hb1.trans (HB.out.mono hb1.size)⟩
theorem text_digest : textL [100, 105, 103, 101, 115, 116] = true := by decide +kernel
theorem text_ip : textL [105, 112] = true := by decide +kernel
theorem text_super : textL [115, 117, 112, 101, 114] = true := by decide +kernel
theorem pident_any (x : IdD) (w : World) (h1 : x.scheme.size ≤ 1048576) (h2 : x.id.size ≤ 1048576) (G : Glob w) :
  Calls Tryz.prog 148 #[.agg #[.string x.scheme, .string x.id]] w fun e w' => e = .returned (.bool (identD x)) ∧ Below w.heap.size w w' := by
 have hb0 : Below w.heap.size w (w.alloc (.cells #[.string x.scheme, .string x.id] 79)) := (Below.refl _ _).alloc (Nat.le_refl _) _
 have hlt0 : w.heap.size < (w.alloc (.cells #[.string x.scheme, .string x.id] 79)).heap.size := by simp
 have x0 : (w.alloc (.cells #[.string x.scheme, .string x.id] 79)).cell? ⟨w.heap.size, 0, none⟩ = some (.string x.scheme) := st_at (heap_alloc_new w _) rfl
 have x1 : (w.alloc (.cells #[.string x.scheme, .string x.id] 79)).cell? ⟨w.heap.size, 1, none⟩ = some (.string x.id) := st_at (heap_alloc_new w _) rfl
 have hT := fun (W : World) (hb : Below w.heap.size w W) => ptext_any x.scheme W (by omega) (G.below hb)
 have hU := fun (W : World) (hb : Below w.heap.size w W) => ptext_any x.id W (by omega) (G.below hb)
 have hD := fun (W : World) (hb : Below w.heap.size w W) => pdigest_any x.id W h2 (G.below hb)
 have hA := fun (W : World) (hb : Below w.heap.size w W) => paddr_any x.id W h2 (G.below hb)
 obtain ⟨R, hR⟩ : ∃ R, identD x = R := ⟨_, rfl⟩
 rw [hR]
 unfold identD at hR
 have hs1 : (x.scheme.toList == [100, 105, 103, 101, 115, 116]) = true → textL x.scheme.data.toList = true := fun h => by rw [← ByteArray.toList_eq, eq_of_beq h]; exact text_digest
 have hs2 : (x.scheme.toList == [105, 112]) = true → textL x.scheme.data.toList = true := fun h => by rw [← ByteArray.toList_eq, eq_of_beq h]; exact text_ip
 have hs3 : (x.scheme.toList == [115, 117, 112, 101, 114]) = true → textL x.scheme.data.toList = true := fun h => by rw [← ByteArray.toList_eq, eq_of_beq h]; exact text_super
 have hat := addr_text x.id.data.toList
 obtain ⟨S1, e1⟩ : ∃ S, (x.scheme.toList == [100, 105, 103, 101, 115, 116]) = S := ⟨_, rfl⟩
 obtain ⟨S2, e2⟩ : ∃ S, (x.scheme.toList == [105, 112]) = S := ⟨_, rfl⟩
 obtain ⟨S3, e3⟩ : ∃ S, (x.scheme.toList == [115, 117, 112, 101, 114]) = S := ⟨_, rfl⟩
 rw [e1] at hR hs1
 rw [e2] at hR hs2
 rw [e3] at hR hs3
 generalize textL x.scheme.data.toList = T at hT hs1 hs2 hs3
 generalize textL x.id.data.toList = U at hU hR hat
 generalize digestL x.id.data.toList = D at hD hR
 generalize addrL x.id.data.toList = C at hA hR hat
 clear G
 have hcase : (T = false ∧ R = false) ∨ (T = true ∧ U = false ∧ R = false) ∨ (T = true ∧ U = true ∧ S1 = true ∧ R = D) ∨ (T = true ∧ U = true ∧ S1 = false ∧ S2 = true ∧ R = C) ∨
   (T = true ∧ U = true ∧ S1 = false ∧ S2 = false ∧ S3 = true ∧ R = true) ∨ (T = true ∧ U = true ∧ S1 = false ∧ S2 = false ∧ S3 = false ∧ R = false) := by
  cases S1 <;> cases S2 <;> cases S3 <;> cases T <;> cases U <;> cases D <;> cases C <;> simp_all
 clear hR hs1 hs2 hs3 hat
 rcases hcase with ⟨rfl, rfl⟩ | ⟨rfl, rfl, rfl⟩ | ⟨rfl, rfl, rfl, rfl⟩ | ⟨rfl, rfl, rfl, rfl, rfl⟩ | ⟨rfl, rfl, rfl, rfl, rfl, rfl⟩ | ⟨rfl, rfl, rfl, rfl, rfl, rfl⟩
 all_goals
  go_enter Tryz.func148, Tryz.ntmps148
  go_wp2_with (first
   | (go_at_call 189; with_reducible refine (hT _ hb0).mono ?_; rintro e wA ⟨rfl, hcA⟩; have hbA := hb0.trans (hcA.mono hb0.size); have x0A := (hcA.cell (p := ⟨w.heap.size, 0, none⟩) hlt0).trans x0; have x1A := (hcA.cell (p := ⟨w.heap.size, 1, none⟩) hlt0).trans x1; have hltA := Nat.lt_of_lt_of_le hlt0 hcA.size; clear hcA)
   | (go_at_call 189; with_reducible refine (hU _ hbA).mono ?_; rintro e wB ⟨rfl, hcB⟩; have hbB := hbA.trans (hcB.mono hbA.size); have x0B := (hcB.cell (p := ⟨w.heap.size, 0, none⟩) hltA).trans x0A; have x1B := (hcB.cell (p := ⟨w.heap.size, 1, none⟩) hltA).trans x1A; clear hcB)
   | (go_at_call 190; with_reducible refine (hD _ hbB).mono ?_; rintro e wC ⟨rfl, hW⟩; replace hW := hW.symm; subst hW)
   | (go_at_call 191; refine (hA _ hbB).mono ?_; rintro e wC ⟨⟨z, rfl⟩, hcC⟩; have hbC := hbB.trans (hcC.mono hbB.size)))
  go_ret
  refine ⟨rfl, ?_⟩
  first | exact hbC | exact hbB | exact hbA | exact hb0
theorem eqId_symm (x y : IdD) : eqIdD x y = eqIdD y x := by
 rw [Bool.eq_iff_iff, eqIdD_iff, eqIdD_iff]; exact eq_comm
theorem pindex_any (l : List IdD) (x : IdD) (A : Nat → Prop) (v : Value) (w : World) (h : SlR A w 2 v (l.map IdD.cells)) (hA : ∀ b, A b → b < w.heap.size) (hm : l.length ≤ 1048576) :
  Calls Tryz.prog 192 #[v, .agg #[.string x.scheme, .string x.id]] w fun e w' => IdxPost (l.any fun y => eqIdD y x) e ∧ Below w.heap.size w w' := by
 obtain ⟨n, hn⟩ : ∃ n, l.length = n := ⟨_, rfl⟩
 obtain ⟨s, q, rfl⟩ := h.len'
 rw [List.length_map, hn] at h ⊢
 rw [hn] at hm
 obtain ⟨R, hR⟩ : ∃ R, (l.any fun y => eqIdD y x) = R := ⟨_, rfl⟩
 rw [hR]
 have HN := Lib.hid hn
 have HR := Lib.hid hR
 clear hn hR
 have hb0 : Below w.heap.size w (w.alloc (.cells #[.string x.scheme, .string x.id] 79)) := (Below.refl _ _).alloc (Nat.le_refl _) _
 have hlt0 : w.heap.size < (w.alloc (.cells #[.string x.scheme, .string x.id] 79)).heap.size := by simp
 have x0 : (w.alloc (.cells #[.string x.scheme, .string x.id] 79)).cell? ⟨w.heap.size, 0, none⟩ = some (.string x.scheme) := st_at (heap_alloc_new w _) rfl
 have x1 : (w.alloc (.cells #[.string x.scheme, .string x.id] 79)).cell? ⟨w.heap.size, 1, none⟩ = some (.string x.id) := st_at (heap_alloc_new w _) rfl
 have X0 := Lib.hid x0
 have X1 := Lib.hid x1
 obtain ⟨W0, hW0⟩ : ∃ W0, w.alloc (.cells #[.string x.scheme, .string x.id] 79) = W0 := ⟨_, rfl⟩
 rw [hW0] at hb0 hlt0 X0 X1
 have HW := Lib.hid hW0
 clear x0 x1 hW0
 go_enter Tryz.func192, Tryz.ntmps192
 go_wp2
 go_loopw [4, 5, 8] (fun _ _ i W => ∃ k : Nat, k ≤ n ∧ i = .int .i64 k ∧ RowKit.Hid ((l.drop k).any (fun y => eqIdD y x) = R) ∧ RowKit.Hid (Below W0.heap.size W0 W)) (fun _ _ i _ => n - (intOf i).toNat)
 case atStart => exact ⟨0, Nat.zero_le _, rfl, HR, Lib.hid (by rw [HW.out]; exact Below.refl _ _)⟩
 case round =>
  obtain ⟨k, hk, rfl, HP, HB⟩ := hrel
  clear HR
  have hbw := hb0.trans (HB.out.mono hb0.size)
  by_cases hlt : k < n
  ·have hkl : k < l.length := by rw [HN.out]; exact hlt
   obtain ⟨y, hy⟩ : ∃ y, l[k]? = some y := ⟨_, List.getElem?_eq_getElem hkl⟩
   have hyl : l[k] = y := (List.getElem?_eq_some_iff.1 hy).2
   have hr : (l.map IdD.cells)[k]? = some (IdD.cells y) := by rw [List.getElem?_map, hy]; rfl
   obtain ⟨b1, o1, n1, q1, e1, hb1, r1⟩ := h.row hr
   cases e1
   have r1 := range_below r1 hbw (hA b1 hb1)
   have p0 := r1 0 (.string y.scheme) rfl
   have p1 := r1 1 (.string y.id) rfl
   rw [Nat.add_zero] at p0
   have p2 := (HB.out.cell (p := ⟨w.heap.size, 0, none⟩) hlt0).trans X0.out
   have p3 := (HB.out.cell (p := ⟨w.heap.size, 1, none⟩) hlt0).trans X1.out
   have heq : ∀ w, (binOp .eql 79 (.agg #[.string x.scheme, .string x.id]) (.agg #[.string y.scheme, .string y.id])).run Tryz.prog w = .ok (.bool (eqIdD y x)) w := fun w => by rw [eqId_symm]; exact eql_id x y w
   have hp' := HP.out
   rw [List.drop_eq_getElem_cons hkl, List.any_cons, hyl] at hp'
   have HBW := Lib.hid hbw
   clear HP hr hy hyl r1 hbw
   cases hq : eqIdD y x with
   | true =>
    rw [hq] at heq hp'
    rw [Bool.true_or] at hp'
    subst hp'
    clear hq
    go_wp2
    go_quiet (fail)
    go_wp2
    go_ret
    exact ⟨⟨_, rfl, by simp⟩, below_drewN' HBW.out _⟩
   | false =>
    rw [hq] at heq hp'
    rw [Bool.false_or] at hp'
    have HX := Lib.hid hp'
    clear hq hp'
    go_wp2
    go_quiet (fail)
    go_wp2
    go_roundw
    case rel => exact ⟨k + 1, by omega, by go_num, HX, Lib.hid (below_drewN' HB.out _)⟩
    case measure => simp [intOf]; omega
  ·obtain rfl : k = n := by omega
   have hp' := HP.out
   rw [List.drop_of_length_le (by rw [HN.out]; exact Nat.le_refl _), List.any_nil] at hp'
   subst hp'
   clear HP
   go_wp2
   go_ret
   exact ⟨⟨_, rfl, by decide⟩, hbw⟩
theorem pcontains_any (l : List IdD) (x : IdD) (A : Nat → Prop) (v : Value) (w : World) (h : SlR A w 2 v (l.map IdD.cells)) (hA : ∀ b, A b → b < w.heap.size) (hm : l.length ≤ 1048576) :
  Calls Tryz.prog 149 #[v, .agg #[.string x.scheme, .string x.id]] w fun e w' => e = .returned (.bool (l.any fun y => eqIdD y x)) ∧ Below w.heap.size w w' := by
 have hb0 : Below w.heap.size w (w.alloc (.cells #[.string x.scheme, .string x.id] 79)) := (Below.refl _ _).alloc (Nat.le_refl _) _
 have hi := pindex_any l x A v (w.alloc (.cells #[.string x.scheme, .string x.id] 79)) (h.below hA hb0) (fun b hb => Nat.lt_of_lt_of_le (hA b hb) hb0.size) hm
 have x0 : (w.alloc (.cells #[.string x.scheme, .string x.id] 79)).cell? ⟨w.heap.size, 0, none⟩ = some (.string x.scheme) := st_at (heap_alloc_new w _) rfl
 have x1 : (w.alloc (.cells #[.string x.scheme, .string x.id] 79)).cell? ⟨w.heap.size, 1, none⟩ = some (.string x.id) := st_at (heap_alloc_new w _) rfl
 generalize (l.any fun y => eqIdD y x) = R at hi ⊢
 clear h
 go_enter Tryz.func149, Tryz.ntmps149
 go_wp2_with (go_at_call 192; refine hi.mono ?_; rintro e w' ⟨⟨i, rfl, hi⟩, hb⟩)
 all_goals
  go_ret
  refine ⟨ret_bool ?_, hb0.trans (hb.mono hb0.size)⟩
  simp
theorem clamp_any (t : Int) (w : World) : Calls Tryz.prog 147 #[.int .i32 t] w fun e w' => e = .returned (.int .i32 (if t < 4 then 4 else if 1048576 < t then 1048576 else t)) ∧ w' = w := by
 go_enter Tryz.func147, Tryz.ntmps147
 go_wp2
 all_goals
  go_ret
  exact ⟨ret_int (by (repeat' split); all_goals omega), rfl⟩
set_option maxHeartbeats 2000000
set_option maxRecDepth 100000
def fieldsL (t : Int) : List UInt8 :=
 if t = 1 then [112, 100, 97, 111, 110]
 else if t = 2 then [112]
 else if t = 5 then [112, 100, 118]
 else if t = 7 then [112, 97, 118]
 else if t = 13 then [112, 118]
 else if t = 14 then [109]
 else if t = 120 then [112, 113]
 else if t = 121 then [112]
 else if t = -10 then [115]
 else if t = -11 then [108]
 else if t = -1 then [99]
 else []
def partD (t : Int) : Bool := decide (t = 1 ∨ t = 2 ∨ t = 5 ∨ t = 7 ∨ t = 13 ∨ t = 120 ∨ t = 121)
def knownD (t : Int) : Bool := partD t || decide (t = 14 ∨ t = -10 ∨ t = -11 ∨ t = -1)
def Other (t : Int) : Prop := (t == 1) = false ∧ (t == 2) = false ∧ (t == 5) = false ∧ (t == 7) = false ∧ (t == 13) = false ∧ (t == 14) = false ∧ (t == 120) = false ∧ (t == 121) = false ∧ (t == -10) = false ∧ (t == -11) = false ∧ (t == -1) = false
theorem type_cases (t : Int) : t = 1 ∨ t = 2 ∨ t = 5 ∨ t = 7 ∨ t = 13 ∨ t = 14 ∨ t = 120 ∨ t = 121 ∨ t = -10 ∨ t = -11 ∨ t = -1 ∨ Other t := by
 unfold Other
 simp only [beq_eq_false_iff_ne, ne_eq]
 omega
theorem other_fields {t : Int} (h : Other t) : fieldsL t = [] := by
 unfold Other at h
 simp only [beq_eq_false_iff_ne, ne_eq] at h
 unfold fieldsL
 repeat' (first | rw [if_neg (by omega)])
theorem other_part {t : Int} (h : Other t) : partD t = false := by
 unfold Other at h
 simp only [beq_eq_false_iff_ne, ne_eq] at h
 unfold partD
 rw [decide_eq_false (by omega)]
theorem other_known {t : Int} (h : Other t) : knownD t = false := by
 have h2 := other_part h
 unfold Other at h
 simp only [beq_eq_false_iff_ne, ne_eq] at h
 unfold knownD
 rw [h2, decide_eq_false (by omega)]; rfl
theorem fields_any (t : Int) (w : World) : Calls Tryz.prog 39 #[.int .i32 t] w fun e w' => e = .returned (.string ⟨(fieldsL t).toArray⟩) ∧ w' = w := by
 rcases type_cases t with rfl | rfl | rfl | rfl | rfl | rfl | rfl | rfl | rfl | rfl | rfl | h
 case inr.inr.inr.inr.inr.inr.inr.inr.inr.inr.inr =>
  rw [other_fields h]
  have hp := other_part h
  unfold Other at h
  obtain ⟨o0, o1, o2, o3, o4, o5, o6, o7, o8, o9, o10⟩ := h
  go_enter Tryz.func39, Tryz.ntmps39
  go_wp2
  go_ret
  exact ⟨rfl, rfl⟩
 all_goals
  go_enter Tryz.func39, Tryz.ntmps39
  go_wp2
  go_ret
  exact ⟨rfl, rfl⟩
theorem refpart_any (t : Int) (w : World) : Calls Tryz.prog 41 #[.int .i32 t] w fun e w' => e = .returned (.bool (partD t)) ∧ w' = w := by
 rcases type_cases t with rfl | rfl | rfl | rfl | rfl | rfl | rfl | rfl | rfl | rfl | rfl | h
 case inr.inr.inr.inr.inr.inr.inr.inr.inr.inr.inr =>
  rw [other_part h]
  have hp := other_part h
  unfold Other at h
  obtain ⟨o0, o1, o2, o3, o4, o5, o6, o7, o8, o9, o10⟩ := h
  go_enter Tryz.func41, Tryz.ntmps41
  go_wp2
  go_ret
  exact ⟨rfl, rfl⟩
 all_goals
  go_enter Tryz.func41, Tryz.ntmps41
  go_wp2
  go_ret
  exact ⟨rfl, rfl⟩
theorem part13_any (t : Int) (w : World) : Calls Tryz.prog 34 #[.int .i32 t] w fun e w' => e = .returned (.bool (partD t)) ∧ w' = w := by
 rcases type_cases t with rfl | rfl | rfl | rfl | rfl | rfl | rfl | rfl | rfl | rfl | rfl | h
 case inr.inr.inr.inr.inr.inr.inr.inr.inr.inr.inr =>
  rw [other_part h]
  have hp := other_part h
  unfold Other at h
  obtain ⟨o0, o1, o2, o3, o4, o5, o6, o7, o8, o9, o10⟩ := h
  go_enter Tryz.func34, Tryz.ntmps34
  go_wp2
  go_ret
  exact ⟨rfl, rfl⟩
 all_goals
  go_enter Tryz.func34, Tryz.ntmps34
  go_wp2
  go_ret
  exact ⟨rfl, rfl⟩
theorem refsess_any (l : List IdD) (sid tmo : Int) (A : Nat → Prop) (v : Value) (w : World) (h : SlR A w 2 v (l.map IdD.cells)) (hA : ∀ b, A b → b < w.heap.size) (hm : l.length ≤ 1048576) (hz : ∀ x ∈ l, x.scheme.size ≤ 1048576 ∧ x.id.size ≤ 1048576) :
  Calls Tryz.prog 118 #[.agg #[.int .i64 sid, .int .i32 tmo, v]] w fun e w' => e = .returned (.bool (sessD sid tmo l)) ∧ Below w.heap.size w w' := by
 obtain ⟨R, hR⟩ : ∃ R, sessD sid tmo l = R := ⟨_, rfl⟩
 rw [hR]
 unfold sessD at hR
 have hbb := (Below.refl w.heap.size w).alloc (Nat.le_refl _) (.cells #[.int .i64 sid, .int .i32 tmo, v] 28)
 have hids := refids_any l A v (w.alloc (.cells #[.int .i64 sid, .int .i32 tmo, v] 28)) (h.below hA hbb) (fun b hb => by have := hA b hb; simp; omega) hm hz
 obtain ⟨a1, c1, rfl⟩ := h.len'
 obtain ⟨n, hn⟩ : ∃ n, l.length = n := ⟨_, rfl⟩
 rw [List.length_map, hn] at hids hbb ⊢
 rw [hn] at hR hm
 clear h hn
 by_cases c1 : 0 < sid ∧ 4 ≤ tmo ∧ tmo ≤ 1048576 ∧ n ≤ 16
 ·rw [decide_eq_true c1, Bool.true_and] at hR
  rw [hR] at hids
  clear hR
  obtain ⟨d1, d2, d3, d4⟩ := c1
  have d4z : (n : Int) ≤ 16 := by omega
  go_enter Tryz.func118, Tryz.ntmps118
  go_wp2_with (go_at_call 160; refine hids.mono ?_; rintro e w1 ⟨rfl, hb2⟩)
  go_ret
  exact ⟨rfl, hbb.trans (hb2.mono (by simp))⟩
 ·rw [decide_eq_false c1, Bool.false_and] at hR
  subst hR
  clear hids
  by_cases d1 : 0 < sid
  ·by_cases d2 : 4 ≤ tmo
   ·by_cases d3 : tmo ≤ 1048576
    ·have d4z : ¬ (n : Int) ≤ 16 := by omega
     clear c1
     go_enter Tryz.func118, Tryz.ntmps118
     go_wp2
     go_ret
     exact ⟨rfl, hbb⟩
    ·clear c1
     go_enter Tryz.func118, Tryz.ntmps118
     go_wp2
     go_ret
     exact ⟨rfl, hbb⟩
   ·clear c1
    go_enter Tryz.func118, Tryz.ntmps118
    go_wp2
    go_ret
    exact ⟨rfl, hbb⟩
  ·clear c1
   go_enter Tryz.func118, Tryz.ntmps118
   go_wp2
   go_ret
   exact ⟨rfl, hbb⟩
end Go.Proofs.YtfgjiidbafdndaaGreatDoor
