/- Contracts: what is kept of a transaction. -/
import Derived.Test.YtfgjiidbafdndaaGreatDoorK13
import Derived.Test.YtfgjiidbafdndaaGreatDoorK14
import Derived.Test.YtfgjiidbafdndaaGreatDoorK15
import Derived.Test.YtfgjiidbafdndaaGreatDoorK12
import Derived.Test.YtfgjiidbafdndaaGreatDoorK6
import Derived.Test.YtfgjiidbafdndaaGreatDoorK4
namespace Go.Proofs.YtfgjiidbafdndaaGreatDoor
open Go.RowKit
set_option maxHeartbeats 64000000
set_option maxRecDepth 100000
theorem kept_any (f : TxnF) (a1 a2 a3 a4 a5 : Option Addr) (n1 n2 n3 n4 n5 c1 c2 c3 c4 c5 : Nat) (w : World) (hk : knownD f.type = true) :
  Calls Tryz.prog 106 #[.agg (f.cells (.slice a1 n1 c1) (.slice a2 n2 c2) (.slice a3 n3 c3) (.slice a4 n4 c4) (.slice a5 n5 c5)).toArray] w fun e w' => e = .returned (.agg (keptC f (.slice a1 n1 c1) (.slice a2 n2 c2) (.slice a3 n3 c3) (.slice a4 n4 c4) (.slice a5 n5 c5)).toArray) ∧ Below w.heap.size w w' := by
 rcases type_cases f.type with ht | ht | ht | ht | ht | ht | ht | ht | ht | ht | ht | ht
 ·exact kept_1 _ _ _ _ _ _ _ _ _ _ _ _ _ _ _ _ _ ht
 ·exact kept_2 _ _ _ _ _ _ _ _ _ _ _ _ _ _ _ _ _ ht
 ·exact kept_5 _ _ _ _ _ _ _ _ _ _ _ _ _ _ _ _ _ ht
 ·exact kept_7 _ _ _ _ _ _ _ _ _ _ _ _ _ _ _ _ _ ht
 ·exact kept_13 _ _ _ _ _ _ _ _ _ _ _ _ _ _ _ _ _ ht
 ·exact kept_14 _ _ _ _ _ _ _ _ _ _ _ _ _ _ _ _ _ ht
 ·exact kept_120 _ _ _ _ _ _ _ _ _ _ _ _ _ _ _ _ _ ht
 ·exact kept_121 _ _ _ _ _ _ _ _ _ _ _ _ _ _ _ _ _ ht
 ·exact kept_n10 _ _ _ _ _ _ _ _ _ _ _ _ _ _ _ _ _ ht
 ·exact kept_n11 _ _ _ _ _ _ _ _ _ _ _ _ _ _ _ _ _ ht
 ·exact kept_n1 _ _ _ _ _ _ _ _ _ _ _ _ _ _ _ _ _ ht
 ·rw [other_known ht] at hk
  exact absurd hk (by decide)
theorem plain_kept (f : TxnF) (hf : f.Ok) (A : Nat → Prop) (v1 v2 v3 v4 v5 : Value) (w : World) (h1 : SlR A w 1 v1 (f.data.map byteCells)) (h2 : SlR A w 3 v2 (f.acl.map AclD.cells)) (h3 : SlR A w 2 v3 (f.ids.map IdD.cells)) (h4 : SlR A w 1 v4 (f.paths.map strCells)) (hA : ∀ b, A b → b < w.heap.size) :
  Calls Tryz.prog 107 #[.agg (f.cells v1 v2 v3 v4 v5).toArray, .agg (keptC f v1 v2 v3 v4 v5).toArray] w fun e w' => e = .returned (.bool (!spare13 f 0)) ∧ Below w.heap.size w w' := by
 refine (plain_gen f (keptF f) rfl v1 v2 v3 v4 v5 _ _ _ _ _ (hasF f.type 100 || decide (f.data.length = 0)) (hasF f.type 97 || decide (f.acl.length = 0)) (hasF f.type 115 || decide (f.ids.length = 0)) (hasF f.type 108 || decide (f.paths.length = 0)) w (fun W hb => ?_) (fun W hb => ?_) (fun W hb => ?_) (fun W hb => ?_)).mono ?_
 ·unfold keptV
  cases hasF f.type 100
  ·exact (eqB_nil f.data A v1 W (h1.below hA hb)).mono fun e w' h => ⟨h.1, 0, h.2⟩
  ·exact (eqB_self f.data A v1 W (h1.below hA hb)).mono fun e w' h => ⟨h.1, 0, h.2⟩
 ·unfold keptV
  cases hasF f.type 97
  ·exact (seqAcl_nil f.acl A v2 W (h2.below hA hb)).mono fun e w' h => ⟨h.1, 0, h.2⟩
  ·exact seqAcl_self f.acl A v2 W (h2.below hA hb) hf.acl
 ·unfold keptV
  cases hasF f.type 115
  ·exact (seqId_nil f.ids A v3 W (h3.below hA hb)).mono fun e w' h => ⟨h.1, 0, h.2⟩
  ·exact seqId_self f.ids A v3 W (h3.below hA hb) hf.ids
 ·unfold keptV
  cases hasF f.type 108
  ·exact (seqStr_nil f.paths A v4 W (h4.below hA hb)).mono fun e w' h => ⟨h.1, 0, h.2⟩
  ·exact seqStr_self f.paths A v4 W (h4.below hA hb) hf.paths
 ·rintro e w' ⟨rfl, hb⟩
  refine ⟨congrArg (fun b => Ending.returned (.bool b)) ?_, hb⟩
  have g1 : (f.path.toList == (keptF f).path.toList) = (hasF f.type 112 || f.path.toList.isEmpty) := by
   unfold keptF; cases hasF f.type 112
   ·show (f.path.toList == (⟨#[]⟩ : ByteArray).toList) = _
    rw [show (⟨#[]⟩ : ByteArray).toList = [] by rw [ByteArray.toList_eq]]
    cases hq : f.path.toList <;> rfl
   ·simp
  have g2 : (f.owner == (keptF f).owner) = (hasF f.type 111 || f.owner == 0) := by unfold keptF; cases hasF f.type 111 <;> simp
  have g3 : (f.version == (keptF f).version) = (hasF f.type 118 || f.version == 0) := by unfold keptF; cases hasF f.type 118 <;> simp
  have g4 : (f.creates == (keptF f).creates) = (hasF f.type 110 || f.creates == 0) := by unfold keptF; cases hasF f.type 110 <;> simp
  have g5 : eqQuotaD f.has (keptF f).has f.count (keptF f).count f.bytes (keptF f).bytes = (hasF f.type 113 || eqQuotaD f.has false f.count 0 f.bytes 0) := by unfold keptF; cases hasF f.type 113 <;> simp [eqQuotaD]
  have g6 : (f.sid == (keptF f).sid) = (hasF f.type 115 || f.sid == 0) := by unfold keptF; cases hasF f.type 115 <;> simp
  have g7 : (f.timeout == (keptF f).timeout) = (hasF f.type 115 || f.timeout == 0) := by unfold keptF; cases hasF f.type 115 <;> simp
  have g8 : (f.code == (keptF f).code) = (hasF f.type 99 || f.code == 0) := by unfold keptF; cases hasF f.type 99 <;> simp
  have pz : ∀ n : Nat, decide (n = 0) = !decide (0 < n) := fun n => by cases n <;> simp
  unfold plainB spare13
  rw [g1, g2, g3, g4, g5, g6, g7, g8]
  simp only [pz, bne, Bool.not_or, Bool.not_and, Bool.not_not, Nat.lt_irrefl, decide_false, Bool.or_true, Bool.not_false, Bool.true_and]
  generalize hasF f.type 112 = x1
  generalize hasF f.type 115 = x2
  generalize (f.sid == 0) = y1
  generalize (f.timeout == 0) = y2
  generalize decide (0 < f.ids.length) = y3
  cases x2 <;> simp only [Bool.true_or, Bool.false_or, Bool.true_and, Bool.and_assoc, Bool.and_comm, Bool.and_left_comm]
theorem keptC_at (f : TxnF) (v1 v2 v3 v4 : Value) (s5 : Option Addr) (n c5 : Nat) : ∃ s15 n15 c15, (keptC f v1 v2 v3 v4 (.slice s5 n c5))[15]? = some (.slice s15 n15 c15) ∧ (hasF f.type 109 || decide (¬ 0 < n)) = decide (n = n15) := by
 unfold keptC keptV TxnF.cells
 cases hasF f.type 109
 ·exact ⟨none, 0, 0, rfl, by cases n <;> simp⟩
 ·exact ⟨s5, n, c5, rfl, by simp⟩
theorem keptC_one (f : TxnF) (s1 s2 s3 s4 s5 : Option Addr) (n1 n2 n3 n4 n5 c1 c2 c3 c4 c5 : Nat) : ((keptC f (.slice s1 n1 c1) (.slice s2 n2 c2) (.slice s3 n3 c3) (.slice s4 n4 c4) (.slice s5 n5 c5)).toArray.all (·.oneCell')) = true := by
 unfold keptC keptV TxnF.cells
 cases hasF f.type 100 <;> cases hasF f.type 97 <;> cases hasF f.type 115 <;> cases hasF f.type 108 <;> cases hasF f.type 109 <;> simp [Value.oneCell']
theorem podd_any (f : TxnF) (hf : f.Ok) (n : Nat) (zxid : Int) (A : Nat → Prop) (cs : List Value) (w : World) (h : TxnA A w f n cs) (hA : ∀ b, A b → b < w.heap.size) (G : Glob w) (hk : knownD f.type = true) :
  Calls Tryz.prog 64 #[.agg cs.toArray, .int .i64 zxid] w fun e w' => e = .returned (.bool (spare13 f n || odd13 f zxid)) ∧ Below w.heap.size w w' := by
 have hlen := h.len
 obtain ⟨vd, va, vi, vp, vs, hcs, h1, h2, h3, h4, rows, h5, hn5⟩ := h.ex
 clear h
 obtain ⟨a1, c1, rfl⟩ := h1.len'
 obtain ⟨a2, c2, rfl⟩ := h2.len'
 obtain ⟨a3, c3, rfl⟩ := h3.len'
 obtain ⟨a4, c4, rfl⟩ := h4.len'
 obtain ⟨a5, c5, rfl⟩ := h5.len'
 obtain ⟨n1, hn1⟩ : ∃ n, f.data.length = n := ⟨_, rfl⟩
 obtain ⟨n2, hn2⟩ : ∃ n, f.acl.length = n := ⟨_, rfl⟩
 obtain ⟨n3, hn3⟩ : ∃ n, f.ids.length = n := ⟨_, rfl⟩
 obtain ⟨n4, hn4⟩ : ∃ n, f.paths.length = n := ⟨_, rfl⟩
 rw [List.length_map, hn1] at h1 hcs
 rw [List.length_map, hn2] at h2 hcs
 rw [List.length_map, hn3] at h3 hcs
 rw [List.length_map, hn4] at h4 hcs
 rw [hn5] at hcs
 have hb0 : Below w.heap.size w (w.alloc (.cells cs.toArray 33)) := (Below.refl w.heap.size w).alloc (Nat.le_refl _) _
 have hr0 : (w.alloc (.cells cs.toArray 33)).rangeAt w.heap.size 0 cs := st_range (heap_alloc_new w _)
 have hlt0 : w.heap.size < (w.alloc (.cells cs.toArray 33)).heap.size := by simp
 have x3 : (w.alloc (.cells cs.toArray 33)).cell? ⟨w.heap.size, 3, none⟩ = some (.slice a2 n2 c2) := hr0 3 _ (by rw [hcs]; rfl)
 have hB := containsAcl_any 105 #[] (enters_of Tryz.func105 (by kernel_rfl) rfl) badA f.acl A (.slice a2 n2 c2) (w.alloc (.cells cs.toArray 33)) (h2.below hA hb0) (fun b hb' => Nat.lt_of_lt_of_le (hA b hb') hb0.size) hf.acl
  (fun W x hx hb => poddA_any x W (hf.acl1 x hx).1 (hf.acl1 x hx).2 (G.below (hb0.trans (hb.mono hb0.size))))
 obtain ⟨ks, hks⟩ : ∃ ks, keptC f (.slice a1 n1 c1) (.slice a2 n2 c2) (.slice a3 n3 c3) (.slice a4 n4 c4) (.slice a5 n c5) = ks := ⟨_, rfl⟩
 have hK : ∀ W : World, Calls Tryz.prog 106 #[.agg cs.toArray] W fun e w' => e = .returned (.agg ks.toArray) ∧ Below W.heap.size W w' := fun W => by rw [hcs, ← hks]; exact kept_any f a1 a2 a3 a4 a5 n1 n2 n3 n4 n c1 c2 c3 c4 c5 W hk
 obtain ⟨s15, n15, c15, hk15, hm15⟩ := keptC_at f (.slice a1 n1 c1) (.slice a2 n2 c2) (.slice a3 n3 c3) (.slice a4 n4 c4) a5 n c5
 rw [hks] at hk15
 have HK1 : ks.toArray.all (·.oneCell') = true := by rw [← hks]; exact keptC_one f _ _ _ _ _ _ _ _ _ _ _ _ _ _ _
 replace HK1 := Lib.hid HK1
 have hkl : ks.length = 16 := by rw [← hks]; rfl
 have hP : ∀ W : World, Below w.heap.size w W → Calls Tryz.prog 107 #[.agg cs.toArray, .agg ks.toArray] W fun e w' => e = .returned (.bool (!spare13 f 0)) ∧ Below W.heap.size W w' := fun W hb => by rw [hcs, ← hks]; exact plain_kept f hf A _ _ _ _ _ W (h1.below hA hb) (h2.below hA hb) (h3.below hA hb) (h4.below hA hb) (fun b hb' => Nat.lt_of_lt_of_le (hA b hb') hb.size)
 obtain ⟨R, hR⟩ : ∃ R, (spare13 f n || odd13 f zxid) = R := ⟨_, rfl⟩
 rw [hR]
 unfold odd13 at hR
 rw [spare_split] at hR
 generalize f.acl.any badA = BA at hB hR
 have hdesc : spare13 f 0 = false → hasF f.type 108 = false → descD f.paths = false := fun h h' => by rw [spare_paths f 0 h h']; rfl
 have hnm : (!hasF f.type 109 && decide (0 < n)) = !decide (n = n15) := by rw [← hm15]; cases hasF f.type 109 <;> by_cases hz : 0 < n <;> simp [hz]
 rw [hnm] at hR
 generalize spare13 f 0 = SP at hP hR hdesc
 have hi := Lib.hid (show (Tryz.prog.info? 33).map (·.size) = some cs.length by rw [hlen]; kernel_rfl)
 have hik := Lib.hid (show (Tryz.prog.info? 33).map (·.size) = some ks.toArray.size by rw [List.size_toArray, hkl]; kernel_rfl)
 have hik2 := Lib.hid (show (Tryz.prog.info? 33).map (·.size) = some ks.length by rw [hkl]; kernel_rfl)
 have hcz := Lib.hid (show (#[.int .i32 0, .string ⟨#[]⟩, .slice none 0 0, .slice none 0 0, .int .i64 0, .int .i32 0, .int .i32 0, .bool false, .int .i64 0, .int .i64 0, .int .i64 0, .int .i32 0, .slice none 0 0, .slice none 0 0, .int .i32 0, .slice none 0 0] : Array Value).size = ks.toArray.size by rw [show ks.toArray.size = 16 by rw [List.size_toArray, hkl]]; rfl)
 have HK15 := Lib.hid hk15
 have H3 := Lib.hid h3
 have H4 := Lib.hid h4
 have HCS := Lib.hid hcs
 clear h1 h2 h3 h4 h5 hn5 hcs hlen hks hkl hk15 hnm hm15
 cases BA
 rotate_left
 rw [Bool.true_or, Bool.or_true] at hR; subst hR
 rotate_right
 cases SP
 rotate_left
 rw [Bool.true_or, Bool.true_or] at hR; subst hR
 rotate_right
 by_cases k0 : n = n15
 rotate_left
 obtain rfl : R = true := by rw [← hR, decide_eq_false k0]; rfl
 have k0' : ((n : Int) == (n15 : Int)) = false := by simpa using (by omega : ¬ (n : Int) = n15)
 rotate_right
 rw [decide_eq_true k0] at hR
 subst k0
 have hdesc := hdesc rfl
 simp only [Bool.not_true, Bool.false_or] at hR
 simp only [Bool.not_false] at hP
 rcases type_cases f.type with ht | ht | ht | ht | ht | ht | ht | ht | ht | ht | ht | ht
 rotate_left 11
 rw [other_known ht] at hk
 exact absurd hk (by decide)
 rotate_right 11
 rotate_left 9
 have hR : descD f.paths = R := by rw [← hR, show tail13 f zxid = false by unfold tail13; rw [ht]; rfl, Bool.or_false]
 have HR := Lib.hid hR
 have HN := Lib.hid hn4
 clear hR hdesc
 rotate_right 9
 rotate_left 8
 rw [hdesc (by rw [ht]; decide), Bool.false_or, show tail13 f zxid = (f.sid != 0 || !sessD zxid f.timeout f.ids) by unfold tail13; rw [ht]; rfl] at hR
 obtain ⟨b1, hb1⟩ : ∃ b, (f.sid != 0) = b := ⟨_, rfl⟩
 rw [hb1] at hR
 clear hdesc
 cases b1 <;> (simp only [Bool.true_or, Bool.false_or] at hR; subst hR)
 rotate_right 8
 all_goals try (rw [hdesc (by rw [ht]; decide), Bool.false_or] at hR; unfold tail13 at hR; simp only [ht, Int.reduceNeg, Int.reduceEq, reduceIte] at hR; subst hR)
 all_goals try clear hdesc
 all_goals
  clear hk
  go_enter Tryz.func64, Tryz.ntmps64
  go_wp2_with (first
  | (go_at_call 102; refine hB.mono ?_; rintro e wA ⟨rfl, hcA⟩; have hbA := hb0.trans (hcA.mono hb0.size); have hrA := range_below hr0 hcA hlt0; have hltA := Nat.lt_of_lt_of_le hlt0 hcA.size; clear hcA; dsimp only)
  | (with_reducible refine wpList_store_new rfl 33 (.tmp 5) (.tmp 12) rfl #[.int .i32 0, .string ⟨#[]⟩, .slice none 0 0, .slice none 0 0, .int .i64 0, .int .i32 0, .int .i32 0, .bool false, .int .i64 0, .int .i64 0, .int .i64 0, .int .i32 0, .slice none 0 0, .slice none 0 0, .int .i32 0, .slice none 0 0] ks.toArray rfl rfl hik.out hcz.out HK1.out ?_)
  | (with_reducible refine wpList_load_mid rfl 33 (.tmp 5) rfl wB.heap.size 0 rfl ks _ (new_range wB ks 33) Tryz.underlying33 rfl hik2.out ?_)
  | (with_reducible refine wpList_load_mid rfl 33 (.tmp 2) rfl w.heap.size 0 rfl cs _ (range_below hrB ((Below.refl wB.heap.size wB).alloc (Nat.le_refl _) _) hltB) Tryz.underlying33 rfl hi.out ?_)
  | (with_reducible refine wpList_load_mid rfl 33 (.tmp 2) rfl w.heap.size 0 rfl cs _ hrA Tryz.underlying33 rfl hi.out ?_)
  | (go_at_call 106; refine (hK _).mono ?_; rintro e wB ⟨rfl, hcB⟩; have hbB := hbA.trans (hcB.mono hbA.size); have hrB := range_below hrA hcB hltA; have hltB := Nat.lt_of_lt_of_le hltA hcB.size; clear hcB; dsimp only)
  | (go_at_call 107; refine (hP _ (hbB.alloc hbB.size _)).mono ?_; rintro e wD ⟨rfl, hcD⟩; have hbC := hbB.alloc hbB.size (.cells ks.toArray 33); have hbD := hbC.trans (hcD.mono hbC.size); have hltC : w.heap.size < (wB.alloc (.cells ks.toArray 33)).heap.size := Nat.lt_of_lt_of_le hltB (by simp); have hrD := range_below (range_below hrB ((Below.refl wB.heap.size wB).alloc (Nat.le_refl _) (.cells ks.toArray 33)) hltB) hcD hltC; have z15 := (hcD.cell (p := ⟨wB.heap.size, 15, none⟩) (by simp)).trans ((new_range wB ks 33) 15 _ HK15.out); have y0 : wD.cell? ⟨w.heap.size, 0, none⟩ = some (.int .i32 f.type) := hrD 0 _ (by rw [HCS.out]; rfl); have y7 : wD.cell? ⟨w.heap.size, 7, none⟩ = some (.bool f.has) := hrD 7 _ (by rw [HCS.out]; rfl); have y8 : wD.cell? ⟨w.heap.size, 8, none⟩ = some (.int .i64 f.count) := hrD 8 _ (by rw [HCS.out]; rfl); have y9 : wD.cell? ⟨w.heap.size, 9, none⟩ = some (.int .i64 f.bytes) := hrD 9 _ (by rw [HCS.out]; rfl); have y10 : wD.cell? ⟨w.heap.size, 10, none⟩ = some (.int .i64 f.sid) := hrD 10 _ (by rw [HCS.out]; rfl); have y11 : wD.cell? ⟨w.heap.size, 11, none⟩ = some (.int .i32 f.timeout) := hrD 11 _ (by rw [HCS.out]; rfl); have y12 : wD.cell? ⟨w.heap.size, 12, none⟩ = some (.slice a3 n3 c3) := hrD 12 _ (by rw [HCS.out]; rfl); have y13 : wD.cell? ⟨w.heap.size, 13, none⟩ = some (.slice a4 n4 c4) := hrD 13 _ (by rw [HCS.out]; rfl); have y14 : wD.cell? ⟨w.heap.size, 14, none⟩ = some (.int .i32 f.code) := hrD 14 _ (by rw [HCS.out]; rfl); have y15 : wD.cell? ⟨w.heap.size, 15, none⟩ = some (.slice a5 n c5) := hrD 15 _ (by rw [HCS.out]; rfl); have hltD := Nat.lt_of_lt_of_le hltC hcD.size; have y10' : ∀ o, (wD.alloc o).cell? ⟨w.heap.size, 10, none⟩ = some (.int .i64 f.sid) := fun o => cell_stays ((Below.refl wD.heap.size wD).alloc (Nat.le_refl _) o) y10; clear hcD hbC hltC hrD; dsimp only)
  | (go_at_call 109; refine (psess_any f.ids zxid f.timeout A (.slice a3 n3 c3) _ (H3.out.below hA (hbD.alloc hbD.size _)) (fun b hb' => Nat.lt_of_lt_of_le (hA b hb') (hbD.alloc hbD.size _).size) hf.ids hf.ids1 (G.below (hbD.alloc hbD.size _))).mono ?_; rintro e wE ⟨rfl, hcE⟩; have hbE := (hbD.alloc hbD.size (.cells #[.int .i64 zxid, .int .i32 f.timeout, .slice a3 n3 c3] 28)).trans (hcE.mono (hbD.alloc hbD.size _).size); dsimp only)
  | fail)
 all_goals try (go_ret; first | exact ⟨rfl, hbA⟩ | exact ⟨rfl, hbE⟩ | exact ⟨rfl, hbD.alloc hbD.size _⟩ | exact ⟨rfl, hbD⟩ | exact ⟨ret_bool (by simp), hbD⟩ | (refine ⟨ret_bool ?_, hbD⟩; simp_all; done))
 have HBD := Lib.hid hbD
 have H4D := Lib.hid (H4.out.below hA hbD)
 have m4 : n4 ≤ 1048576 := by rw [← HN.out]; exact hf.paths
 clear hbD hrA hrB z15 y15 hn4 hb0 hr0 x3 hbA hbB hB hK hP
 go_loopw [4, 6] (fun _ i W => ∃ j : Nat, i = .int .i64 ((j : Int) + 1) ∧ j ≤ n4 ∧ (∃ m, W = wD.drewN m) ∧ RowKit.Hid (descD (f.paths.drop j) = R)) (fun _ i _ => n4 + 1 - (intOf i).toNat)
 case atStart => exact ⟨0, rfl, Nat.zero_le _, ⟨0, rfl⟩, HR⟩
 case round =>
  obtain ⟨j, rfl, hj, ⟨m, hm⟩, HP⟩ := hrel
  clear HR
  have y13r : wr.cell? ⟨w.heap.size, 13, none⟩ = some (.slice a4 n4 c4) := by rw [hm]; exact y13
  have hdb : Below wD.heap.size wD wr := by rw [hm]; exact below_drewN' (Below.refl _ _) m
  have HM := Lib.hid hm
  clear y13 hm
  by_cases hlt : j + 1 < n4
  ·have hl0 : j < f.paths.length := by rw [HN.out]; omega
   have hl1 : j + 1 < f.paths.length := by rw [HN.out]; omega
   obtain ⟨x, hx⟩ : ∃ x, f.paths[j]? = some x := ⟨_, List.getElem?_eq_getElem hl0⟩
   obtain ⟨y, hy⟩ : ∃ y, f.paths[j + 1]? = some y := ⟨_, List.getElem?_eq_getElem hl1⟩
   have hxl : f.paths[j] = x := (List.getElem?_eq_some_iff.1 hx).2
   have hyl : f.paths[j + 1] = y := (List.getElem?_eq_some_iff.1 hy).2
   have hrx : (f.paths.map strCells)[j]? = some (strCells x) := by rw [List.getElem?_map, hx]; rfl
   have hry : (f.paths.map strCells)[j + 1]? = some (strCells y) := by rw [List.getElem?_map, hy]; rfl
   obtain ⟨b1, o1, q1, r1, e1, _, s1⟩ := H4D.out.row hrx
   cases e1
   obtain ⟨b2, o2, q2, r2, e2, _, s2⟩ := H4D.out.row hry
   cases e2
   have p0 := s1 0 (.string x) rfl
   have p1 := s2 0 (.string y) rfl
   rw [Nat.add_zero, Nat.mul_one] at p0 p1
   have p0r : wr.cell? ⟨b1, o1 + j, none⟩ = some (.string x) := by rw [HM.out]; exact p0
   have p1r : wr.cell? ⟨b1, o1 + (j + 1), none⟩ = some (.string y) := by rw [HM.out]; exact p1
   clear p0 p1
   have hO := fun (W : World) => porder_any x y W
   have hx' := HP.out
   rw [List.drop_eq_getElem_cons hl0, List.drop_eq_getElem_cons hl1, hxl, hyl] at hx'
   unfold descD at hx'
   rw [show y :: f.paths.drop (j + 1 + 1) = f.paths.drop (j + 1) by rw [← hyl, ← List.drop_eq_getElem_cons hl1]] at hx'
   have z1 : (j : Int) < n4 := by omega
   have z2 : (j : Int) + 1 < n4 := by omega
   have z3 : (0 : Int) ≤ (j : Int) + 1 := by omega
   have hkm := wrap_back j (by omega)
   have hkm3 := wrap_small j (by omega)
   obtain ⟨C, hC⟩ : ∃ C, Lib.compareBytes x.data.toList y.data.toList = C := ⟨_, rfl⟩
   rw [hC] at hx'
   simp only [hC] at hO
   clear hC hx hy hxl hyl hrx hry s1 s2 HP hl0 hl1
   by_cases hc : 0 ≤ C
   ·rw [decide_eq_true hc, Bool.true_or] at hx'
    subst hx'
    go_wp2
    go_quiet (first | (go_at_call 108; refine Calls.quiet_of_same (hO _)))
    go_wp2
    go_ret
    exact ⟨rfl, below_drewN' (HBD.out.trans (hdb.mono HBD.out.size)) _⟩
   ·rw [decide_eq_false hc, Bool.false_or] at hx'
    have HX := Lib.hid hx'
    have hc' : C < 0 := by omega
    clear hx'
    go_wp2
    go_quiet (first | (go_at_call 108; refine Calls.quiet_of_same (hO _)))
    go_wp2
    go_roundw
    case rel => exact ⟨j + 1, by go_num, by omega, ⟨_, by rw [HM.out, World.drewN_drewN]⟩, HX⟩
    case measure => simp [intOf]; omega
  ·have hx' := HP.out
   have hx' : false = R := by
    rw [← hx']
    rcases hd : f.paths.drop j with _ | ⟨a, _ | ⟨b, t⟩⟩
    ·rfl
    ·rfl
    ·exfalso
     have := congrArg List.length hd
     rw [List.length_drop, HN.out] at this
     simp at this
     omega
   subst hx'
   have z2 : ¬ (j : Int) + 1 < n4 := by omega
   clear HP
   go_wp2
   go_ret
   exact ⟨rfl, HBD.out.trans (hdb.mono HBD.out.size)⟩
set_option maxHeartbeats 8000000
theorem pown_any (f : TxnF) (hf : f.Ok) (n : Nat) (zxid : Int) (A : Nat → Prop) (cs : List Value) (w : World) (h : TxnA A w f n cs) (hA : ∀ b, A b → b < w.heap.size) (G : Glob w) (hk : knownD f.type = true) :
  Calls Tryz.prog 33 #[.agg cs.toArray, .int .i64 zxid] w fun e w' => e = .returned (.int .i64 (own13 f n zxid)) ∧ Below w.heap.size w w' := by
 have hbb : Below w.heap.size w (w.alloc (.cells cs.toArray 33)) := (Below.refl w.heap.size w).alloc (Nat.le_refl _) _
 have hN := fun (W : World) (hb : Below w.heap.size w W) => pnamed_any f hf n A cs W (h.below hA hb) (fun b hb' => Nat.lt_of_lt_of_le (hA b hb') hb.size) (G.below hb) hk
 have hG := fun (W : World) (hb : Below w.heap.size w W) => pgreat_any f hf n A cs W (h.below hA hb) (fun b hb' => Nat.lt_of_lt_of_le (hA b hb') hb.size)
 have hO := fun (W : World) (hb : Below w.heap.size w W) => podd_any f hf n zxid A cs W (h.below hA hb) (fun b hb' => Nat.lt_of_lt_of_le (hA b hb') hb.size) (G.below hb) hk
 have hlen := h.len
 unfold own13
 generalize named13 f = P at hN ⊢
 generalize great13 f n = S at hG ⊢
 generalize (spare13 f n || odd13 f zxid) = O at hO ⊢
 have hr0 : (w.alloc (.cells cs.toArray 33)).rangeAt w.heap.size 0 cs := st_range (heap_alloc_new w _)
 have hlt : w.heap.size < (w.alloc (.cells cs.toArray 33)).heap.size := by simp
 have hi : (Tryz.prog.info? 33).map (·.size) = some cs.length := by rw [hlen]; kernel_rfl
 have hi := Lib.hid hi
 have hlen := Lib.hid hlen
 clear h G
 rcases (by cases P <;> cases S <;> cases O <;> simp : P = true ∨ (P = false ∧ S = true) ∨ (P = false ∧ S = false ∧ O = true) ∨ (P = false ∧ S = false ∧ O = false)) with rfl | ⟨rfl, rfl⟩ | ⟨rfl, rfl, rfl⟩ | ⟨rfl, rfl, rfl⟩
 all_goals
  simp only [if_true, Bool.false_eq_true, if_false] at hN hG hO ⊢
  go_enter Tryz.func33, Tryz.ntmps33
  go_wp2_with (first
   | (with_reducible refine wpList_load_mid rfl 33 (.tmp 2) rfl w.heap.size 0 rfl cs _ hrB Tryz.underlying33 rfl hi.out ?_)
   | (with_reducible refine wpList_load_mid rfl 33 (.tmp 2) rfl w.heap.size 0 rfl cs _ hrA Tryz.underlying33 rfl hi.out ?_)
   | (with_reducible refine wpList_load_mid rfl 33 (.tmp 2) rfl w.heap.size 0 rfl cs _ hr0 Tryz.underlying33 rfl hi.out ?_)
   | (go_at_call 62; with_reducible refine (hN _ hbb).mono ?_; rintro e wA ⟨rfl, hcA⟩; have hbA := hbb.trans (hcA.mono hbb.size); have hrA := range_below hr0 hcA hlt; have hltA := Nat.lt_of_lt_of_le hlt hcA.size; clear hcA; dsimp only)
   | (go_at_call 63; with_reducible refine (hG _ hbA).mono ?_; rintro e wB ⟨rfl, hcB⟩; have hbB := hbA.trans (hcB.mono hbA.size); have hrB := range_below hrA hcB hltA; have hltB := Nat.lt_of_lt_of_le hltA hcB.size; clear hcB; dsimp only)
   | (go_at_call 64; with_reducible refine (hO _ hbB).mono ?_; rintro e wC ⟨rfl, hcC⟩; have hbC := hbB.trans (hcC.mono hbB.size); clear hcC; dsimp only)
   | fail)
  go_ret
  refine ⟨rfl, ?_⟩
  first | exact hbC | exact hbB | exact hbA
theorem fields_known (t : Int) : (fieldsL t).isEmpty = !knownD t := by
 rcases type_cases t with rfl | rfl | rfl | rfl | rfl | rfl | rfl | rfl | rfl | rfl | rfl | h
 all_goals try decide
 rw [other_fields h, other_known h]; rfl
theorem part_known (t : Int) (h : partD t = true) : knownD t = true := by unfold knownD; rw [h]; rfl
theorem TxnA.oneCell {A : Nat → Prop} {w : World} {f : TxnF} {n : Nat} {cs : List Value} (h : TxnA A w f n cs) : cs.toArray.all (·.oneCell') = true := all_oneCell_toArray (by
 obtain ⟨vd, va, vi, vp, vs, hcs, h1, h2, h3, h4, rows, h5, _⟩ := h.ex
 rw [hcs]; unfold TxnF.cells
 obtain ⟨_, _, rfl⟩ := h1.len'; obtain ⟨_, _, rfl⟩ := h2.len'; obtain ⟨_, _, rfl⟩ := h3.len'; obtain ⟨_, _, rfl⟩ := h4.len'; obtain ⟨_, _, rfl⟩ := h5.len'
 intro u hu; simp only [List.mem_cons, List.not_mem_nil, or_false] at hu
 rcases hu with rfl | rfl | rfl | rfl | rfl | rfl | rfl | rfl | rfl | rfl | rfl | rfl | rfl | rfl | rfl | rfl <;> rfl)
def subs13 (zxid : Int) : List TxnD → Int
 | [] => 0
 | .mk f s :: ts => if partD f.type = true then (if own13 f s.length zxid = 0 then subs13 zxid ts else own13 f s.length zxid) else 110
def right13 (f : TxnF) (subs : List TxnD) (zxid : Int) : Int :=
 if (fieldsL f.type).isEmpty = true then 110 else if zxid < 1 then 1 else if own13 f subs.length zxid = 0 then subs13 zxid subs else own13 f subs.length zxid
abbrev ZC160 : Array Value := #[.int .i32 0, .string ⟨#[]⟩, .slice none 0 0, .slice none 0 0, .int .i64 0, .int .i32 0, .int .i32 0, .bool false, .int .i64 0, .int .i64 0, .int .i64 0, .int .i32 0, .slice none 0 0, .slice none 0 0, .int .i32 0, .slice none 0 0]
abbrev ZC161 (x0 : World) (x1 : List Value) : World := ((x0.alloc (.cells x1.toArray 35)).alloc (.cells ZC160 33))
theorem refright_any (f : TxnF) (subs : List TxnD) (A : Nat → Prop) (pre cs L : List Value) (zxid : Int) (hL : L = pre ++ cs) (hp : pre.length = 4) (hz : pre[2]? = some (.int .i64 zxid)) (w : World) (hok : TxnOk (.mk f subs)) (hR : TxnR A w (.mk f subs) cs) (hA : ∀ b, A b → b < w.heap.size) :
  Calls Tryz.prog 19 #[.agg L.toArray] w fun e w' => e = .returned (.int .i64 (right13 f subs zxid)) ∧ Below w.heap.size w w' := by
 have hT := hR.own
 rw [TxnOk] at hok
 obtain ⟨hf, hsl, hso⟩ := hok
 have hlen := hR.length
 rw [TxnR] at hR
 obtain ⟨vd, va, vi, vp, vs, rows, hcs, h1, h2, h3, h4, h5, h6⟩ := hR
 have l5 : rows.length = subs.length := h6.len
 obtain ⟨s5, q5, rfl⟩ := h5.len'
 rw [l5] at h5 hcs
 obtain ⟨n, hn⟩ : ∃ n, subs.length = n := ⟨_, rfl⟩
 rw [hn] at h5 hcs hT hsl
 have hLl : L.length = 20 := by rw [hL, List.length_append, hp, hlen]
 have hz1 : ((ZC161 w L)).heap[w.heap.size + 1]? = some (.cells ZC160 33 (0, 0)) := by
  have := heap_alloc_new (w.alloc (.cells L.toArray 35)) (.cells ZC160 33)
  rwa [show (w.alloc (.cells L.toArray 35)).heap.size = w.heap.size + 1 by simp] at this
 have hg0 : ((w.alloc (.cells L.toArray 35))).heap[w.heap.size]? = some (.cells L.toArray 35 (0, 0)) := heap_alloc_new w _
 have hgZ : ((ZC161 w L)).heap[w.heap.size]? = some (.cells L.toArray 35 (0, 0)) := by
  rw [Below.heap_alloc _ _ _ (by simp)]; exact hg0
 have hg2 : (((ZC161 w L).setRow (w.heap.size + 1) cs.toArray)).heap[w.heap.size]? = some (.cells L.toArray 35 (0, 0)) := (setRow_other _ _ _ _ (by omega)).trans hgZ
 have hrow := setRow_heap (ZC161 w L) (w.heap.size + 1) _ cs.toArray 33 (0, 0) hz1
 have bW : Below w.heap.size w ((ZC161 w L).setRow (w.heap.size + 1) cs.toArray) := below_setRow (((Below.refl w.heap.size w).alloc (Nat.le_refl _) _).alloc (by simp) _) (g := w.heap.size + 1) (by omega) cs.toArray
 have cv : ∀ (W : World) (b o : Nat), W.rangeAt b o L → W.rangeAt b o (pre ++ cs) := fun W b o h => by rw [← hL]; exact h
 have hran : ((w.alloc (.cells L.toArray 35))).rangeAt w.heap.size 4 cs := by
  have := st_range hg0
  rw [List.toList_toArray] at this
  have := range_right (cv _ _ _ this)
  rwa [hp, Nat.zero_add] at this
 have c2 : (((ZC161 w L).setRow (w.heap.size + 1) cs.toArray)).cell? ⟨w.heap.size, 2, none⟩ = some (.int .i64 zxid) := st_at hg2 (by rw [List.getElem?_toArray, hL, List.getElem?_append_left (by rw [hp]; decide), hz])
 have r2 : (((ZC161 w L).setRow (w.heap.size + 1) cs.toArray)).rangeAt (w.heap.size + 1) 0 cs := by
  have := st_range hrow
  rwa [List.toList_toArray] at this
 have x0 : (((ZC161 w L).setRow (w.heap.size + 1) cs.toArray)).cell? ⟨w.heap.size + 1, 0, none⟩ = some (.int .i32 f.type) := r2 0 _ (by rw [hcs]; rfl)
 have x15 : (((ZC161 w L).setRow (w.heap.size + 1) cs.toArray)).cell? ⟨w.heap.size + 1, 15, none⟩ = some (.slice s5 n q5) := by
  have := r2 15 (.slice s5 n q5) (by rw [hcs]; rfl)
  rwa [Nat.zero_add] at this
 have sz2 : (((ZC161 w L).setRow (w.heap.size + 1) cs.toArray)).heap.size = w.heap.size + 2 := by rw [setRow_size]; simp
 have hi : (Tryz.prog.info? 33).map (·.size) = some cs.length := by rw [hlen]; kernel_rfl
 have hi4 : (Tryz.prog.info? 33).map (·.size) = some cs.toArray.size := by rw [List.size_toArray]; exact hi
 have hold : (ZC160 : Array Value).size = cs.toArray.size := by simp [hlen]
 have hone : cs.toArray.all (·.oneCell') = true := all_oneCell_toArray (by
  rw [hcs]; unfold TxnF.cells
  obtain ⟨_, _, rfl⟩ := h1.len'; obtain ⟨_, _, rfl⟩ := h2.len'; obtain ⟨_, _, rfl⟩ := h3.len'; obtain ⟨_, _, rfl⟩ := h4.len'
  intro u hu; simp only [List.mem_cons, List.not_mem_nil, or_false] at hu
  rcases hu with rfl | rfl | rfl | rfl | rfl | rfl | rfl | rfl | rfl | rfl | rfl | rfl | rfl | rfl | rfl | rfl <;> rfl)
 have hOwn := fun (W : World) (hb : Below w.heap.size w W) => refown_any f hf n zxid A cs W (hT.below hA hb) (fun b hb' => Nat.lt_of_lt_of_le (hA b hb') hb.size)
 have hF := fields_any f.type ((ZC161 w L).setRow (w.heap.size + 1) cs.toArray)
 obtain ⟨R, hRR⟩ : ∃ R, right13 f subs zxid = R := ⟨_, rfl⟩
 rw [hRR]
 unfold right13 at hRR
 rw [hn] at hRR
 have hFE : (⟨(fieldsL f.type).toArray⟩ : ByteArray).toList.isEmpty = (fieldsL f.type).isEmpty := by rw [ByteArray.toList_eq, List.toList_toArray]
 obtain ⟨F, hF'⟩ : ∃ F : ByteArray, (⟨(fieldsL f.type).toArray⟩ : ByteArray) = F := ⟨_, rfl⟩
 rw [hF'] at hF hFE
 generalize (fieldsL f.type).isEmpty = E at hRR hFE
 generalize own13 f n zxid = O at hRR hOwn
 have HR := Lib.hid hRR
 have HI := Lib.hid hi
 have HN := Lib.hid hn
 clear cv hF' hRR hi hn hT hcs h1 h2 h3 h4 hL hp hz hLl l5 hlen hg0 hgZ hg2 hrow
 go_enter Tryz.func19, Tryz.ntmps19
 cases E with
 | true =>
  have hR := HR.out
  rw [if_pos rfl] at hR
  subst hR
  go_wp2_with (first
   | (with_reducible refine wpList_load_mid rfl 33 (.tmp 7) rfl w.heap.size 4 rfl cs _ hran Tryz.underlying33 rfl HI.out ?_)
   | (with_reducible refine wpList_store_row rfl 33 (.tmp 3) (.tmp 8) rfl (w.heap.size + 1) cs.toArray rfl rfl 33 _ hz1 hi4 hold hone ?_)
   | (go_at_call 39; with_reducible refine hF.mono ?_; rintro e W ⟨rfl, hW⟩; rw [← hW] at bW c2 r2 x0 x15 sz2; clear hW)
   | fail)
  go_ret
  exact ⟨rfl, bW⟩
 | false =>
  by_cases z1 : zxid < 1
  ·have hR := HR.out
   rw [if_neg (by decide), if_pos z1] at hR
   subst hR
   go_wp2_with (first
    | (with_reducible refine wpList_load_mid rfl 33 (.tmp 7) rfl w.heap.size 4 rfl cs _ hran Tryz.underlying33 rfl HI.out ?_)
    | (with_reducible refine wpList_store_row rfl 33 (.tmp 3) (.tmp 8) rfl (w.heap.size + 1) cs.toArray rfl rfl 33 _ hz1 hi4 hold hone ?_)
    | (go_at_call 39; with_reducible refine hF.mono ?_; rintro e W ⟨rfl, hW⟩; rw [← hW] at bW c2 r2 x0 x15 sz2; clear hW)
    | fail)
   go_ret
   exact ⟨rfl, bW⟩
  ·by_cases o1 : O = 0
   ·have hR := HR.out
    rw [if_neg (by decide), if_neg z1, if_pos o1] at hR
    subst o1
    clear HR
    have HR := Lib.hid hR
    clear hR
    go_wp2_with (first
     | (with_reducible refine wpList_load_mid rfl 33 (.tmp 7) rfl w.heap.size 4 rfl cs _ hran Tryz.underlying33 rfl HI.out ?_)
     | (with_reducible refine wpList_store_row rfl 33 (.tmp 3) (.tmp 8) rfl (w.heap.size + 1) cs.toArray rfl rfl 33 _ hz1 hi4 hold hone ?_)
     | (go_at_call 39; with_reducible refine hF.mono ?_; rintro e W ⟨rfl, hW⟩; rw [← hW] at bW c2 r2 x0 x15 sz2; clear hW)
     | (with_reducible refine wpList_load_mid rfl 33 (.tmp 3) rfl (w.heap.size + 1) 0 rfl cs _ r2 Tryz.underlying33 rfl HI.out ?_)
     | (go_at_call 40; with_reducible refine (hOwn _ bW).mono ?_; rintro e V ⟨rfl, bV'⟩; have bV := bW.trans (bV'.mono bW.size))
     | fail)
    have c2v := (bV'.cell (p := ⟨w.heap.size, 2, none⟩) (by show w.heap.size < W.heap.size; omega)).trans c2
    have x15v := (bV'.cell (p := ⟨w.heap.size + 1, 15, none⟩) (by show w.heap.size + 1 < W.heap.size; omega)).trans x15
    have szV : w.heap.size + 2 ≤ V.heap.size := by have := bV'.size; omega
    have bVh := Lib.hid bV
    clear bV' bW c2 r2 x0 x15 hF hOwn hone hold hi4 hz1 hran bV sz2
    go_loopw [2, 5, 6] (fun _ i _ W => ∃ k : Nat, k ≤ n ∧ i = .int .i64 k ∧ RowKit.Hid (subs13 zxid (subs.drop k) = R) ∧ RowKit.Hid (Below V.heap.size V W)) (fun _ i _ _ => n - (intOf i).toNat)
    case atStart => exact ⟨0, Nat.zero_le _, rfl, HR, Lib.hid (Below.refl _ _)⟩
    case round =>
     obtain ⟨k, hk, rfl, HP, hb0⟩ := hrel
     have hb := hb0.out
     clear HR
     have c2r := (hb.cell (p := ⟨w.heap.size, 2, none⟩) (by show w.heap.size < V.heap.size; omega)).trans c2v
     have x15r := (hb.cell (p := ⟨w.heap.size + 1, 15, none⟩) (by show w.heap.size + 1 < V.heap.size; omega)).trans x15v
     have bw := bVh.out.trans (hb.mono bVh.out.size)
     have szr : w.heap.size + 2 ≤ wr.heap.size := by have := hb.size; omega
     by_cases hlt : k < n
     ·have hkl : k < subs.length := by rw [HN.out]; exact hlt
      obtain ⟨⟨f', s'⟩, ht⟩ : ∃ t, subs[k]? = some t := ⟨_, List.getElem?_eq_getElem hkl⟩
      obtain ⟨r, hr, hRr⟩ := h6.get ht
      have hok' := hso.get ht
      rw [TxnOk] at hok'
      have hTr := hRr.own
      have hlr : r.length = 16 := hRr.length
      obtain ⟨b1, o1', nn1, qq1, e1, hb1, r1⟩ := h5.row hr
      cases e1
      have r1 := range_below r1 bw (hA b1 hb1)
      have hr0 : r[0]? = some (.int .i32 f'.type) := by
       obtain ⟨_, _, _, _, _, h0, _⟩ := hTr.ex
       rw [h0]; rfl
      have p0 := r1 0 _ hr0
      rw [Nat.add_zero] at p0
      have hpart := refpart_any f'.type wr
      have hp := HP.out
      rw [List.drop_eq_getElem_cons hkl, show subs[k] = .mk f' s' from (List.getElem?_eq_some_iff.1 ht).2] at hp
      unfold subs13 at hp
      have hi16 : (Tryz.prog.info? 33).map (·.size) = some r.length := by rw [hlr]; kernel_rfl
      have HI2 := Lib.hid hi16
      cases hP : partD f'.type with
      | false =>
       rw [hP, if_neg (by decide)] at hp
       subst hp
       rw [hP] at hpart
       clear hP HP
       go_wp2_with (go_at_call 41; with_reducible refine hpart.mono ?_; rintro e w' ⟨rfl, rfl⟩)
       go_ret
       exact ⟨rfl, bw⟩
      | true =>
       rw [hP, if_pos rfl] at hp
       rw [hP] at hpart
       have hOwn := refown_any f' hok'.1 s'.length zxid A r wr.drew ((hTr.below hA bw).below (fun b hb' => Nat.lt_of_lt_of_le (hA b hb') bw.size) (Below.refl _ wr).drew) (fun b hb' => Nat.lt_of_lt_of_le (hA b hb') bw.size)
       generalize own13 f' s'.length zxid = O at hOwn hp
       have HP2 := Lib.hid hp
       clear hP HP hp hTr hRr hr hr0
       go_wp2_with (go_at_call 41; with_reducible refine hpart.mono ?_; rintro e wr ⟨rfl, rfl⟩)
       have hu := Tryz.underlying33
       have hi := HI2.out
       refine wp_region_held_drew (S := (fun w' => w'.cell? ⟨w.heap.size + 1, 15, none⟩ = some (.slice (some ⟨b1, o1', none⟩) n q5) ∧ w'.rangeAt b1 (o1' + k * 16) r ∧ w'.cell? ⟨w.heap.size, 2, none⟩ = some (.int .i64 zxid))) (by kernel_rfl) ⟨x15r, r1, c2r⟩ (fun hHeld => ?_)
       refine wpAnyH_take (i := 0) (v := .pointer (some ⟨w.heap.size + 1, 15, none⟩)) rfl (by kernel_rfl) (by kernel_rfl) (by kernel_rfl) (fun _ _ _ h => h) (Or.inl ⟨by rfl, fun w hSw => by go_simp⟩) hHeld ?_
       refine wpAnyH_take (i := 1) (v := .slice (some ⟨b1, o1', none⟩) n q5) rfl (by kernel_rfl) (by kernel_rfl) (by kernel_rfl) (fun _ _ _ h => h) (Or.inl ⟨by rfl, fun w hSw => by obtain ⟨hS1, _, _⟩ := hSw; go_simp⟩) hHeld ?_
       refine wpAnyH_take (i := 2) (v := .int .i64 k) rfl (by kernel_rfl) (by kernel_rfl) (by kernel_rfl) (fun _ _ _ h => h) (Or.inl ⟨by rfl, fun w hSw => by go_simp⟩) hHeld ?_
       refine wpAnyH_take (i := 3) (v := .pointer (some ⟨b1, o1' + k * 16, none⟩)) rfl (by kernel_rfl) (by kernel_rfl) (by kernel_rfl) (fun _ _ _ h => h) (Or.inl ⟨by rfl, fun w hSw => by go_simp⟩) hHeld ?_
       refine wpAnyH_take (i := 4) (v := .agg r.toArray) rfl (by kernel_rfl) (by kernel_rfl) (by kernel_rfl) (fun _ _ _ h => h) (yieldsIf_load_mid (by rfl) 33 (.tmp 41) rfl b1 (o1' + k * 16) rfl r _ (fun w hSw => hSw.2.1) hu rfl hi) hHeld ?_
       refine wpAnyH_take (i := 5) (v := .pointer (some ⟨w.heap.size, 2, none⟩)) rfl (by kernel_rfl) (by kernel_rfl) (by kernel_rfl) (fun _ _ _ h => h) (Or.inl ⟨by rfl, fun w hSw => by go_simp⟩) hHeld ?_
       refine wpAnyH_take (i := 6) (v := .int .i64 zxid) rfl (by kernel_rfl) (by kernel_rfl) (by kernel_rfl) (fun _ _ _ h => h) (Or.inl ⟨by rfl, fun w hSw => by obtain ⟨_, _, hS3⟩ := hSw; go_simp⟩) hHeld ?_
       simp only [Act.put, List.setIfInBounds_toArray]
       refine wpAnyH_ready (rs := [7]) (by kernel_rfl) (by simp) ?_
       refine AllReadyH.cons (o := { dst := some 45, op := Op.call { callee := Callee.value (Operand.func 40), args := #[Operand.tmp 42, Operand.tmp 44], argTypes := #[33, 2] }, type := 3, pos := "ref.go:172", after := #[{ on := 4, ground := Ground.data }, { on := 6, ground := Ground.data }], guard := none }) rfl (fun K hK => ?_) AllReadyH.nil
       go_simp
       refine hOwn.mono ?_
       rintro e w6 ⟨rfl, hb6⟩
       have hb6' : Below wr.heap.size wr w6 := (Below.refl _ wr).drew.trans hb6
       have hb1r : b1 < wr.heap.size := Nat.lt_of_lt_of_le (hA b1 hb1) bw.size
       refine hK.out _ _ ⟨(hb6'.cell (p := ⟨w.heap.size + 1, 15, none⟩) (by show w.heap.size + 1 < wr.heap.size; omega)).trans x15r, range_below r1 hb6' hb1r, (hb6'.cell (p := ⟨w.heap.size, 2, none⟩) (by show w.heap.size < wr.heap.size; omega)).trans c2r⟩ (fun hHeld => ?_)
       clear hK K
       refine wpAnyH_take (i := 8) (oi := { dst := some 6, op := Op.assign (Operand.tmp 45), type := 3, pos := "ref.go:172", after := #[{ on := 7, ground := Ground.data }, { on := 7, ground := Ground.chain }, { on := 0, ground := Ground.phase }, { on := 1, ground := Ground.phase }, { on := 2, ground := Ground.phase }, { on := 3, ground := Ground.phase }, { on := 4, ground := Ground.phase }, { on := 5, ground := Ground.phase }, { on := 6, ground := Ground.phase }, { on := 7, ground := Ground.phase }], guard := none }) (v := .int .i64 O) rfl (by kernel_rfl) (by kernel_rfl) (by kernel_rfl) (fun _ _ _ h => h) (Or.inl ⟨by rfl, fun w hSw => by go_simp⟩) hHeld ?_
       simp only [Act.put, List.setIfInBounds_toArray]
       refine wpAnyH_done (by kernel_rfl) ?_ _
       have bw6 := bw.trans (hb6'.mono bw.size)
       have hb6V : Below V.heap.size V w6 := hb.trans (hb6'.mono hb.size)
       clear hHeld
       by_cases o1 : O = 0
       ·have hp := HP2.out
        rw [if_pos o1] at hp
        subst o1
        clear HP2
        have HX := Lib.hid hp
        have HB := Lib.hid hb6V
        clear hp hb6V
        go_wp2
        go_roundw
        case rel => exact ⟨k + 1, by omega, by go_num, HX, HB⟩
        case measure => simp [intOf]; omega
       ·have hp := HP2.out
        rw [if_neg o1] at hp
        subst hp
        have o2 : (O == 0) = false := by simpa using o1
        clear HP2
        go_wp2
        go_ret
        exact ⟨rfl, bw6⟩
     ·obtain rfl : n = k := by omega
      have hp := HP.out
      rw [List.drop_of_length_le (by rw [HN.out]; exact Nat.le_refl _)] at hp
      unfold subs13 at hp
      subst hp
      clear HP
      go_wp2
      go_ret
      exact ⟨rfl, bw⟩
   ·have hR := HR.out
    rw [if_neg (by decide), if_neg z1, if_neg o1] at hR
    subst hR
    have o2 : (O == 0) = false := by simpa using o1
    go_wp2_with (first
     | (with_reducible refine wpList_load_mid rfl 33 (.tmp 7) rfl w.heap.size 4 rfl cs _ hran Tryz.underlying33 rfl HI.out ?_)
     | (with_reducible refine wpList_store_row rfl 33 (.tmp 3) (.tmp 8) rfl (w.heap.size + 1) cs.toArray rfl rfl 33 _ hz1 hi4 hold hone ?_)
     | (go_at_call 39; with_reducible refine hF.mono ?_; rintro e W ⟨rfl, hW⟩; rw [← hW] at bW c2 r2 x0 x15 sz2; clear hW)
     | (with_reducible refine wpList_load_mid rfl 33 (.tmp 3) rfl (w.heap.size + 1) 0 rfl cs _ r2 Tryz.underlying33 rfl HI.out ?_)
     | (go_at_call 40; with_reducible refine (hOwn _ bW).mono ?_; rintro e V ⟨rfl, bV'⟩; have bV := bW.trans (bV'.mono bW.size))
     | fail)
    go_ret
    exact ⟨rfl, bV⟩
abbrev ZP170 : Array Value := #[.int .i32 0, .string ⟨#[]⟩, .slice none 0 0, .slice none 0 0, .int .i64 0, .int .i32 0, .int .i32 0, .bool false, .int .i64 0, .int .i64 0, .int .i64 0, .int .i32 0, .slice none 0 0, .slice none 0 0, .int .i32 0, .slice none 0 0]
theorem pright_any (f : TxnF) (subs : List TxnD) (A : Nat → Prop) (pre cs L : List Value) (zxid : Int) (hL : L = pre ++ cs) (hp : pre.length = 4) (hz : pre[2]? = some (.int .i64 zxid)) (w : World) (hok : TxnOk (.mk f subs)) (hR : TxnR A w (.mk f subs) cs) (hA : ∀ b, A b → b < w.heap.size) (G : Glob w) :
  Calls Tryz.prog 17 #[.agg L.toArray] w fun e w' => e = .returned (.int .i64 (right13 f subs zxid)) ∧ Below w.heap.size w w' := by
 have hT := hR.own
 rw [TxnOk] at hok
 obtain ⟨hf, hsl, hso⟩ := hok
 have hlen := hR.length
 rw [TxnR] at hR
 obtain ⟨vd, va, vi, vp, vs, rows, hcs, h1, h2, h3, h4, h5, h6⟩ := hR
 have l5 : rows.length = subs.length := h6.len
 obtain ⟨s5, q5, rfl⟩ := h5.len'
 rw [l5] at h5 hcs
 obtain ⟨n, hn⟩ : ∃ n, subs.length = n := ⟨_, rfl⟩
 rw [hn] at h5 hcs hT hsl
 have bW : Below w.heap.size w (w.alloc (.cells L.toArray 35)) := (Below.refl w.heap.size w).alloc (Nat.le_refl _) _
 have hg0 : (w.alloc (.cells L.toArray 35)).heap[w.heap.size]? = some (.cells L.toArray 35 (0, 0)) := heap_alloc_new w _
 have cv : ∀ (W : World) (b o : Nat), W.rangeAt b o L → W.rangeAt b o (pre ++ cs) := fun W b o h => by rw [← hL]; exact h
 have hran : (w.alloc (.cells L.toArray 35)).rangeAt w.heap.size 4 cs := by
  have := st_range hg0
  rw [List.toList_toArray] at this
  have := range_right (cv _ _ _ this)
  rwa [hp, Nat.zero_add] at this
 have hlt0 : w.heap.size < (w.alloc (.cells L.toArray 35)).heap.size := by simp
 have c2 : (w.alloc (.cells L.toArray 35)).cell? ⟨w.heap.size, 2, none⟩ = some (.int .i64 zxid) := st_at hg0 (by rw [List.getElem?_toArray, hL, List.getElem?_append_left (by rw [hp]; decide), hz])
 have x4 : (w.alloc (.cells L.toArray 35)).cell? ⟨w.heap.size, 4, none⟩ = some (.int .i32 f.type) := hran 0 _ (by rw [hcs]; rfl)
 have x19 : (w.alloc (.cells L.toArray 35)).cell? ⟨w.heap.size, 19, none⟩ = some (.slice s5 n q5) := hran 15 (.slice s5 n q5) (by rw [hcs]; rfl)
 have hi : (Tryz.prog.info? 33).map (·.size) = some cs.length := by rw [hlen]; kernel_rfl
 have hKn := knows_any f.type (w.alloc (.cells L.toArray 35))
 have hOwn := fun (hk : knownD f.type = true) (W : World) (hb : Below w.heap.size w W) => pown_any f hf n zxid A cs W (hT.below hA hb) (fun b hb' => Nat.lt_of_lt_of_le (hA b hb') hb.size) (G.below hb) hk
 obtain ⟨R, hRR⟩ : ∃ R, right13 f subs zxid = R := ⟨_, rfl⟩
 rw [hRR]
 unfold right13 at hRR
 rw [hn, fields_known] at hRR
 generalize knownD f.type = E at hRR hKn hOwn
 generalize own13 f n zxid = O at hRR hOwn
 have HI := Lib.hid hi
 have HN := Lib.hid hn
 clear cv hi hn hT hcs h1 h2 h3 h4 hL hp hz l5 hlen hg0
 cases E with
 | false =>
  rw [if_pos (show (!false) = true from rfl)] at hRR
  subst hRR
  clear hOwn
  go_enter Tryz.func17, Tryz.ntmps17
  go_wp2_with (go_at_call 32; with_reducible refine hKn.mono ?_; rintro e w' ⟨rfl, hW⟩; replace hW := hW.symm; subst hW; dsimp only)
  go_ret
  exact ⟨rfl, bW⟩
 | true =>
  replace hOwn := hOwn rfl
  rw [if_neg (show ¬ (!true) = true by decide)] at hRR
  by_cases z1 : zxid < 1
  ·rw [if_pos z1] at hRR
   subst hRR
   clear hOwn
   go_enter Tryz.func17, Tryz.ntmps17
   go_wp2_with (go_at_call 32; with_reducible refine hKn.mono ?_; rintro e w' ⟨rfl, hW⟩; replace hW := hW.symm; subst hW; dsimp only)
   go_ret
   exact ⟨rfl, bW⟩
  rw [if_neg z1] at hRR
  by_cases o1 : O = 0
  case neg =>
   rw [if_neg o1] at hRR
   subst hRR
   have o2 : (O != 0) = true := by simpa using o1
   go_enter Tryz.func17, Tryz.ntmps17
   go_wp2_with (first
    | (with_reducible refine wpList_load_mid rfl 33 (.tmp 17) rfl w.heap.size 4 rfl cs _ hran Tryz.underlying33 rfl HI.out ?_)
    | (go_at_call 32; with_reducible refine hKn.mono ?_; rintro e w' ⟨rfl, hW⟩; replace hW := hW.symm; subst hW; dsimp only)
    | (go_at_call 33; with_reducible refine (hOwn _ bW).mono ?_; rintro e V ⟨rfl, bV'⟩; have bV := bW.trans (bV'.mono bW.size); dsimp only)
    | fail)
   go_ret
   exact ⟨rfl, bV⟩
  rw [if_pos o1] at hRR
  subst o1
  have HR := Lib.hid hRR
  clear hRR
  go_enter Tryz.func17, Tryz.ntmps17
  go_wp2_with (first
   | (with_reducible refine wpList_load_mid rfl 33 (.tmp 17) rfl w.heap.size 4 rfl cs _ hran Tryz.underlying33 rfl HI.out ?_)
   | (go_at_call 32; with_reducible refine hKn.mono ?_; rintro e w' ⟨rfl, hW⟩; replace hW := hW.symm; subst hW; dsimp only)
   | (go_at_call 33; with_reducible refine (hOwn _ bW).mono ?_; rintro e V ⟨rfl, bV'⟩; have bV := bW.trans (bV'.mono bW.size); have c2v := (bV'.cell (p := ⟨w.heap.size, 2, none⟩) hlt0).trans c2; have x19v := (bV'.cell (p := ⟨w.heap.size, 19, none⟩) hlt0).trans x19; dsimp only)
   | fail)
  have szV : w.heap.size + 1 ≤ V.heap.size := by have := bV'.size; simp at this; omega
  have bVh := Lib.hid bV
  clear bV' bW c2 x4 x19 hKn hOwn hran bV hlt0
  go_loopw [2, 5, 6, 29] (fun _ _ _ i W => ∃ k : Nat, k ≤ n ∧ i = .int .i64 k ∧ RowKit.Hid (subs13 zxid (subs.drop k) = R) ∧ RowKit.Hid (Below V.heap.size V W)) (fun _ _ _ i _ => n - (intOf i).toNat)
  case atStart => exact ⟨0, Nat.zero_le _, rfl, HR, Lib.hid (Below.refl _ _)⟩
  case round =>
   obtain ⟨k, hk, rfl, HP, hb0⟩ := hrel
   have hb := hb0.out
   clear HR
   have c2r := (hb.cell (p := ⟨w.heap.size, 2, none⟩) (by show w.heap.size < V.heap.size; omega)).trans c2v
   have bw := bVh.out.trans (hb.mono bVh.out.size)
   have szr : w.heap.size + 1 ≤ wr.heap.size := by have := hb.size; omega
   by_cases hlt : k < n
   ·have hkl : k < subs.length := by rw [HN.out]; exact hlt
    obtain ⟨⟨f', s'⟩, ht⟩ : ∃ t, subs[k]? = some t := ⟨_, List.getElem?_eq_getElem hkl⟩
    obtain ⟨r, hr, hRr⟩ := h6.get ht
    have hok' := hso.get ht
    rw [TxnOk] at hok'
    have hTr := hRr.own
    have hlr : r.length = 16 := hRr.length
    obtain ⟨b1, o1', nn1, qq1, e1, hb1, r1⟩ := h5.row hr
    cases e1
    have r1 := range_below r1 bw (hA b1 hb1)
    have hp := HP.out
    rw [List.drop_eq_getElem_cons hkl, show subs[k] = .mk f' s' from (List.getElem?_eq_some_iff.1 ht).2] at hp
    unfold subs13 at hp
    have hi16 : (Tryz.prog.info? 33).map (·.size) = some r.length := by rw [hlr]; kernel_rfl
    have HI2 := Lib.hid hi16
    have HI3 : RowKit.Hid ((Tryz.prog.info? 33).map (·.size) = some r.toArray.size) := Lib.hid (by rw [List.size_toArray]; exact hi16)
    have hcz : (ZP170 : Array Value).size = r.toArray.size := by rw [show r.toArray.size = 16 by rw [List.size_toArray, hlr]]; rfl
    have HCZ := Lib.hid hcz
    have HONE := Lib.hid hTr.oneCell
    have hbA : Below wr.heap.size wr (wr.alloc (.cells r.toArray 33)) := (Below.refl _ _).alloc (Nat.le_refl _) _
    have bwA := bw.trans (hbA.mono bw.size)
    have hrN := new_range wr r 33
    have t0 : (wr.alloc (.cells r.toArray 33)).cell? ⟨wr.heap.size, 0, none⟩ = some (.int .i32 f'.type) := by
     obtain ⟨_, _, _, _, _, hcs', _⟩ := hTr.ex
     exact hrN 0 _ (by rw [hcs']; rfl)
    have c2A : (wr.alloc (.cells r.toArray 33)).cell? ⟨w.heap.size, 2, none⟩ = some (.int .i64 zxid) := cell_stays hbA c2r
    have hPt := part13_any f'.type (wr.alloc (.cells r.toArray 33))
    have hOw := fun (hk : knownD f'.type = true) => pown_any f' hok'.1 s'.length zxid A r (wr.alloc (.cells r.toArray 33)) (hTr.below hA bwA) (fun b hb' => Nat.lt_of_lt_of_le (hA b hb') bwA.size) (G.below bwA) hk
    have hpk := part_known f'.type
    generalize partD f'.type = D at hPt hp hpk
    generalize own13 f' s'.length zxid = O at hOw hp
    have HBA := Lib.hid (hb.trans (hbA.mono hb.size))
    have BWA := Lib.hid bwA
    clear HP hTr hRr hr hi16 hlr hcz hbA bwA hb bw
    cases D with
    | false =>
     rw [if_neg (by decide)] at hp
     subst hp
     clear hOw hpk
     go_wp2_with (first
      | (with_reducible refine wpList_load_mid rfl 33 (.tmp 31) rfl b1 (o1' + k * 16) rfl r _ r1 Tryz.underlying33 rfl HI2.out ?_)
      | (with_reducible refine wpList_store_new rfl 33 (.tmp 5) (.tmp 32) rfl ZP170 r.toArray rfl rfl HI3.out HCZ.out HONE.out ?_)
      | (go_at_call 34; with_reducible refine hPt.mono ?_; rintro e w' ⟨rfl, hW⟩; replace hW := hW.symm; subst hW; dsimp only)
      | fail)
     go_ret
     exact ⟨rfl, BWA.out⟩
    | true =>
     rw [if_pos rfl] at hp
     replace hOw := hOw (hpk rfl)
     clear hpk
     by_cases o1 : O = 0
     ·rw [if_pos o1] at hp
      subst o1
      have HX := Lib.hid hp
      clear hp
      go_wp2_with (first
       | (with_reducible refine wpList_load_mid rfl 33 (.tmp 31) rfl b1 (o1' + k * 16) rfl r _ r1 Tryz.underlying33 rfl HI2.out ?_)
       | (with_reducible refine wpList_store_new rfl 33 (.tmp 5) (.tmp 32) rfl ZP170 r.toArray rfl rfl HI3.out HCZ.out HONE.out ?_)
       | (go_at_call 34; with_reducible refine hPt.mono ?_; rintro e w' ⟨rfl, hW⟩; replace hW := hW.symm; subst hW; dsimp only)
       | (with_reducible refine wpList_load_mid rfl 33 (.tmp 5) rfl wr.heap.size 0 rfl r _ hrN Tryz.underlying33 rfl HI2.out ?_)
       | (go_at_call 33; with_reducible refine hOw.mono ?_; rintro e W ⟨rfl, hcW⟩; have hbW := Lib.hid (HBA.out.trans (hcW.mono HBA.out.size)); dsimp only)
       | fail)
      go_roundw
      case rel => exact ⟨k + 1, by omega, by go_num, HX, hbW⟩
      case measure => simp [intOf]; omega
     ·rw [if_neg o1] at hp
      subst hp
      have o2 : (O != 0) = true := by simpa using o1
      go_wp2_with (first
       | (with_reducible refine wpList_load_mid rfl 33 (.tmp 31) rfl b1 (o1' + k * 16) rfl r _ r1 Tryz.underlying33 rfl HI2.out ?_)
       | (with_reducible refine wpList_store_new rfl 33 (.tmp 5) (.tmp 32) rfl ZP170 r.toArray rfl rfl HI3.out HCZ.out HONE.out ?_)
       | (go_at_call 34; with_reducible refine hPt.mono ?_; rintro e w' ⟨rfl, hW⟩; replace hW := hW.symm; subst hW; dsimp only)
       | (with_reducible refine wpList_load_mid rfl 33 (.tmp 5) rfl wr.heap.size 0 rfl r _ hrN Tryz.underlying33 rfl HI2.out ?_)
       | (go_at_call 33; with_reducible refine hOw.mono ?_; rintro e W ⟨rfl, hcW⟩; have hbW := BWA.out.trans (hcW.mono BWA.out.size); dsimp only)
       | fail)
      go_ret
      exact ⟨rfl, hbW⟩
   ·obtain rfl : n = k := by omega
    have hp := HP.out
    rw [List.drop_of_length_le (by rw [HN.out]; exact Nat.le_refl _)] at hp
    unfold subs13 at hp
    subst hp
    clear HP
    go_wp2
    go_ret
    exact ⟨rfl, bw⟩
set_option maxHeartbeats 4000000
def fields12 (t : Int) : List UInt8 :=
 if t = 1 ∨ t = 9 then [112]
 else if t = 15 ∨ t = 19 ∨ t = 21 then [112, 116]
 else if t = 3 ∨ t = 5 ∨ t = 7 then [116]
 else if t = 4 then [100, 116]
 else if t = 6 then [97, 116]
 else if t = 8 ∨ t = 103 then [110]
 else if t = 12 then [110, 116]
 else if t = 104 then [99]
 else if t = -10 ∨ t = 107 then [105]
 else if t = 14 ∨ t = 22 then [109]
 else if t = -1 then [101]
 else if t = 2 ∨ t = 13 ∨ t = 11 ∨ t = 106 ∨ t = 120 ∨ t = 121 ∨ t = -11 ∨ t = 20 ∨ t = 18 ∨ t = 101 then []
 else [63]
def part12 (t i : Int) : Bool :=
 if t = 1 ∨ t = 15 ∨ t = 19 ∨ t = 21 ∨ t = 2 ∨ t = 5 ∨ t = 7 ∨ t = 13 ∨ t = 120 ∨ t = 121 then i == 14
 else if t = 3 ∨ t = 4 ∨ t = 6 ∨ t = 8 ∨ t = 12 then i == 22 else t == -1
def Other12 (t : Int) : Prop := (t == 1) = false ∧ (t == 9) = false ∧ (t == 15) = false ∧ (t == 19) = false ∧ (t == 21) = false ∧ (t == 3) = false ∧ (t == 5) = false ∧ (t == 7) = false ∧ (t == 4) = false ∧ (t == 6) = false ∧ (t == 8) = false ∧ (t == 103) = false ∧ (t == 12) = false ∧ (t == 104) = false ∧ (t == -10) = false ∧ (t == 107) = false ∧ (t == 14) = false ∧ (t == 22) = false ∧ (t == -1) = false ∧ (t == 2) = false ∧ (t == 13) = false ∧ (t == 11) = false ∧ (t == 106) = false ∧ (t == 120) = false ∧ (t == 121) = false ∧ (t == -11) = false ∧ (t == 20) = false ∧ (t == 18) = false ∧ (t == 101) = false
def OtherP (t : Int) : Prop := (t == 1) = false ∧ (t == 15) = false ∧ (t == 19) = false ∧ (t == 21) = false ∧ (t == 2) = false ∧ (t == 5) = false ∧ (t == 7) = false ∧ (t == 13) = false ∧ (t == 120) = false ∧ (t == 121) = false ∧ (t == 3) = false ∧ (t == 4) = false ∧ (t == 6) = false ∧ (t == 8) = false ∧ (t == 12) = false ∧ (t == -1) = false
theorem res_cases (t : Int) : t = 1 ∨ t = 9 ∨ t = 15 ∨ t = 19 ∨ t = 21 ∨ t = 3 ∨ t = 5 ∨ t = 7 ∨ t = 4 ∨ t = 6 ∨ t = 8 ∨ t = 103 ∨ t = 12 ∨ t = 104 ∨ t = -10 ∨ t = 107 ∨ t = 14 ∨ t = 22 ∨ t = -1 ∨ t = 2 ∨ t = 13 ∨ t = 11 ∨ t = 106 ∨ t = 120 ∨ t = 121 ∨ t = -11 ∨ t = 20 ∨ t = 18 ∨ t = 101 ∨ Other12 t := by
 unfold Other12
 simp only [beq_eq_false_iff_ne, ne_eq]
 omega
theorem part_cases (t : Int) : t = 1 ∨ t = 15 ∨ t = 19 ∨ t = 21 ∨ t = 2 ∨ t = 5 ∨ t = 7 ∨ t = 13 ∨ t = 120 ∨ t = 121 ∨ t = 3 ∨ t = 4 ∨ t = 6 ∨ t = 8 ∨ t = 12 ∨ t = -1 ∨ OtherP t := by
 unfold OtherP
 simp only [beq_eq_false_iff_ne, ne_eq]
 omega
theorem other12_fields {t : Int} (h : Other12 t) : fields12 t = [63] := by
 unfold Other12 at h
 simp only [beq_eq_false_iff_ne, ne_eq] at h
 unfold fields12
 repeat' (first | rw [if_neg (by omega)])
theorem otherP_part {t : Int} (h : OtherP t) (i : Int) : part12 t i = false := by
 unfold OtherP at h
 simp only [beq_eq_false_iff_ne, ne_eq] at h
 unfold part12
 rw [if_neg (by omega), if_neg (by omega)]
 simp only [beq_eq_false_iff_ne, ne_eq]
 omega
theorem fields12_any (t : Int) (w : World) : Calls Tryz.prog 77 #[.int .i32 t] w fun e w' => e = .returned (.string ⟨(fields12 t).toArray⟩) ∧ w' = w := by
 rcases res_cases t with rfl | rfl | rfl | rfl | rfl | rfl | rfl | rfl | rfl | rfl | rfl | rfl | rfl | rfl | rfl | rfl | rfl | rfl | rfl | rfl | rfl | rfl | rfl | rfl | rfl | rfl | rfl | rfl | rfl | h
 case inr.inr.inr.inr.inr.inr.inr.inr.inr.inr.inr.inr.inr.inr.inr.inr.inr.inr.inr.inr.inr.inr.inr.inr.inr.inr.inr.inr.inr =>
  rw [other12_fields h]
  unfold Other12 at h
  obtain ⟨o0, o1, o2, o3, o4, o5, o6, o7, o8, o9, o10, o11, o12, o13, o14, o15, o16, o17, o18, o19, o20, o21, o22, o23, o24, o25, o26, o27, o28⟩ := h
  go_enter Tryz.func77, Tryz.ntmps77
  go_wp2
  go_ret
  exact ⟨rfl, rfl⟩
 all_goals
  go_enter Tryz.func77, Tryz.ntmps77
  go_wp2
  go_ret
  exact ⟨rfl, rfl⟩
theorem part12_any (t i : Int) (w : World) : Calls Tryz.prog 78 #[.int .i32 t, .int .i32 i] w fun e w' => e = .returned (.bool (part12 t i)) ∧ w' = w := by
 have hi : i = 14 ∨ i = 22 ∨ ((i == 14) = false ∧ (i == 22) = false) := by simp only [beq_eq_false_iff_ne, ne_eq]; omega
 rcases part_cases t with rfl | rfl | rfl | rfl | rfl | rfl | rfl | rfl | rfl | rfl | rfl | rfl | rfl | rfl | rfl | rfl | h
 case inr.inr.inr.inr.inr.inr.inr.inr.inr.inr.inr.inr.inr.inr.inr.inr =>
  rw [otherP_part h]
  unfold OtherP at h
  obtain ⟨o0, o1, o2, o3, o4, o5, o6, o7, o8, o9, o10, o11, o12, o13, o14, o15⟩ := h
  go_enter Tryz.func78, Tryz.ntmps78
  go_wp2
  go_ret
  exact ⟨rfl, rfl⟩
 all_goals
  rcases hi with rfl | rfl | ⟨i1, i2⟩
  all_goals
   go_enter Tryz.func78, Tryz.ntmps78
   go_wp2
   go_ret
   refine ⟨ret_bool ?_, rfl⟩
   simp_all [part12]
theorem has119_any (s : ByteArray) (c : UInt8) (w : World) (hs : s.size ≤ maxLen) : Calls Tryz.prog 119 #[.string s, .int .u8 c.toNat] w fun e w' => e = .returned (.bool (s.data.toList.contains c)) ∧ w' = w := by
 unfold maxLen at hs
 go_enter Tryz.func119, Tryz.ntmps119
 go_wp2
 go_loop [5] (fun i => ∃ k : Nat, k ≤ s.size ∧ i = .int .i64 k ∧ c ∉ s.data.toList.take k) (fun i => s.size - (intOf i).toNat)
 case atStart => exact ⟨0, Nat.zero_le _, rfl, by simp⟩
 case round =>
  obtain ⟨k, hk, rfl, hn⟩ := hrel
  by_cases hlt : k < s.size
  ·go_wp2
   ·rename_i h1 _
    go_ret
    have := str_mem s k hlt
    rw [str_hit hlt h1] at this
    exact ⟨ret_bool (by simpa using this), rfl⟩
   ·rename_i h1
    go_round
    case rel =>
     refine ⟨k + 1, by omega, rfl, ?_⟩
     rw [take_snoc s k hlt]
     intro hc
     rcases List.mem_append.1 hc with hc | hc
     ·exact hn hc
     ·simp only [List.mem_singleton] at hc
      rw [← hc] at h1; simp at h1
    case measure => simp [intOf]; omega
  ·have : k = s.size := by omega
   subst this
   rw [take_all] at hn
   go_wp2
   go_ret
   exact ⟨rfl, rfl⟩
end Go.Proofs.YtfgjiidbafdndaaGreatDoor
