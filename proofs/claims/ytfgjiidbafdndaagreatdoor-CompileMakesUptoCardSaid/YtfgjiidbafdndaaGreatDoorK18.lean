/- What is the matter with a result alone, in the document's words. -/
import Derived.Test.YtfgjiidbafdndaaGreatDoorK17
import Derived.Test.YtfgjiidbafdndaaGreatDoorK12
import Derived.Test.YtfgjiidbafdndaaGreatDoorK6
import Derived.Test.YtfgjiidbafdndaaGreatDoorK16
namespace Go.Proofs.YtfgjiidbafdndaaGreatDoor
open Go.RowKit
set_option maxHeartbeats 8000000
set_option maxRecDepth 100000
def op12 (t i : Int) : Bool := (fields12 t == [63]) || ((i == 0 && t == -1) || (i != 0 && !part12 t i))
def own12 (f : ResF) (n : Nat) (i : Int) : Int := if op12 f.type i = true then 110 else if great12 f = true then 3 else
 if (odd12 f || (spare12 f n || (decide (f.count < 0) || ((i == 0 && f.code != 0) || (i != 0 && (f.type != -1 && f.code != 0)))))) = true then 1 else 0
theorem refown12_any (f : ResF) (hf : f.Ok) (n : Nat) (i : Int) (A : Nat → Prop) (cs : List Value) (w : World) (h : ResA A w f n cs) (hA : ∀ b, A b → b < w.heap.size) :
  Calls Tryz.prog 43 #[.agg cs.toArray, .int .i32 i] w fun e w' => e = .returned (.int .i64 (own12 f n i)) ∧ Below w.heap.size w w' := by
 have hbb : Below w.heap.size w (w.alloc (.cells cs.toArray 40)) := (Below.refl w.heap.size w).alloc (Nat.le_refl _) _
 have hG := fun (W : World) (hb : Below w.heap.size w W) => refgreat12_any f hf n A cs W (h.below hA hb) (fun b hb' => Nat.lt_of_lt_of_le (hA b hb') hb.size)
 have hS := fun (W : World) (hb : Below w.heap.size w W) => refspare12_any f hf n A cs W (h.below hA hb) (fun b hb' => Nat.lt_of_lt_of_le (hA b hb') hb.size)
 have hO := fun (W : World) (hb : Below w.heap.size w W) => refodd12_any f hf n A cs W (h.below hA hb) (fun b hb' => Nat.lt_of_lt_of_le (hA b hb') hb.size)
 have hF := fields12_any f.type (w.alloc (.cells cs.toArray 40))
 have hP := part12_any f.type i (w.alloc (.cells cs.toArray 40))
 have hFE : ((⟨(fields12 f.type).toArray⟩ : ByteArray).toList == [63]) = (fields12 f.type == [63]) := by rw [ByteArray.toList_eq, List.toList_toArray]
 obtain ⟨F, hF'⟩ : ∃ F : ByteArray, (⟨(fields12 f.type).toArray⟩ : ByteArray) = F := ⟨_, rfl⟩
 rw [hF'] at hF hFE
 clear hF'
 have hlen := h.len
 unfold own12 op12
 generalize (fields12 f.type == [63]) = Q at hFE ⊢
 generalize part12 f.type i = P at hP ⊢
 generalize great12 f = G at hG ⊢
 generalize spare12 f n = S at hS ⊢
 generalize odd12 f = O at hO ⊢
 have hr0 : (w.alloc (.cells cs.toArray 40)).rangeAt w.heap.size 0 cs := st_range (heap_alloc_new w _)
 have hlt0 : w.heap.size < (w.alloc (.cells cs.toArray 40)).heap.size := by simp
 obtain ⟨_, _, _, _, _, hcs, _⟩ := h.ex
 have x00 : (w.alloc (.cells cs.toArray 40)).cell? ⟨w.heap.size, 0, none⟩ = some (.int .i32 f.type) := hr0 0 _ (by rw [hcs]; rfl)
 have x10 : (w.alloc (.cells cs.toArray 40)).cell? ⟨w.heap.size, 1, none⟩ = some (.int .i32 f.code) := hr0 1 _ (by rw [hcs]; rfl)
 have x170 : (w.alloc (.cells cs.toArray 40)).cell? ⟨w.heap.size, 17, none⟩ = some (.int .i32 f.count) := by
  have := hr0 17 (.int .i32 f.count) (by rw [hcs]; rfl)
  rwa [Nat.zero_add] at this
 have hi : (Tryz.prog.info? 40).map (·.size) = some cs.length := by rw [hlen]; kernel_rfl
 have hi := Lib.hid hi
 clear hcs hlen h
 generalize f.type = t at *
 generalize f.code = c at *
 generalize f.count = m at *
 have hcase : (Q = true) ∨ (Q = false ∧ (i == 0) = true ∧ (i != 0) = false ∧ (t == -1) = true) ∨ (Q = false ∧ (i == 0) = false ∧ (i != 0) = true ∧ P = false) ∨
   (Q = false ∧ (((i == 0) = true ∧ (i != 0) = false ∧ (t == -1) = false) ∨ ((i == 0) = false ∧ (i != 0) = true ∧ P = true)) ∧ (G = true ∨ (G = false ∧ O = true) ∨ (G = false ∧ O = false ∧ S = true) ∨ (G = false ∧ O = false ∧ S = false ∧ m < 0))) ∨
   (Q = false ∧ (i == 0) = true ∧ (i != 0) = false ∧ (t == -1) = false ∧ G = false ∧ O = false ∧ S = false ∧ ¬ m < 0 ∧ ((c != 0) = true ∨ (c != 0) = false)) ∨
   (Q = false ∧ (i == 0) = false ∧ (i != 0) = true ∧ P = true ∧ G = false ∧ O = false ∧ S = false ∧ ¬ m < 0 ∧ ((t != -1) = false ∨ ((t != -1) = true ∧ ((c != 0) = true ∨ (c != 0) = false)))) := by
  have em : m < 0 ∨ ¬ m < 0 := Classical.em _
  have ei : ((i == 0) = true ∧ (i != 0) = false) ∨ ((i == 0) = false ∧ (i != 0) = true) := by by_cases h : i = 0 <;> simp [h]
  cases Q <;> cases P <;> cases G <;> cases O <;> cases S <;> cases (t == -1) <;> cases (t != -1) <;> cases (c != 0) <;> rcases em with em | em <;> rcases ei with ⟨e1, e2⟩ | ⟨e1, e2⟩ <;> simp [em, e1, e2]
 rcases hcase with rfl | ⟨rfl, i1, i2, t1⟩ | ⟨rfl, i1, i2, rfl⟩ | ⟨rfl, ⟨i1, i2, t1⟩ | ⟨i1, i2, rfl⟩, rfl | ⟨rfl, rfl⟩ | ⟨rfl, rfl, rfl⟩ | ⟨rfl, rfl, rfl, m1⟩⟩ | ⟨rfl, i1, i2, t1, rfl, rfl, rfl, m1, c1 | c1⟩ | ⟨rfl, i1, i2, rfl, rfl, rfl, rfl, m1, t2 | ⟨t2, c1 | c1⟩⟩
 all_goals
  simp only [*, if_true, Bool.false_eq_true, if_false, Bool.true_or, Bool.or_true, Bool.or_self, Bool.false_or, Bool.or_false, Bool.true_and, Bool.false_and, Bool.and_self, Bool.and_false, Bool.not_true, Bool.not_false, decide_true, decide_false]
  go_enter Tryz.func43, Tryz.ntmps43
  go_wp2_with (first
   | (with_reducible refine wpList_load_mid rfl 40 (.tmp 2) rfl w.heap.size 0 rfl cs _ hrC Tryz.underlying40 rfl hi.out ?_)
   | (with_reducible refine wpList_load_mid rfl 40 (.tmp 2) rfl w.heap.size 0 rfl cs _ hrB Tryz.underlying40 rfl hi.out ?_)
   | (with_reducible refine wpList_load_mid rfl 40 (.tmp 2) rfl w.heap.size 0 rfl cs _ hrA Tryz.underlying40 rfl hi.out ?_)
   | (with_reducible refine wpList_load_mid rfl 40 (.tmp 2) rfl w.heap.size 0 rfl cs _ hr0 Tryz.underlying40 rfl hi.out ?_)
   | (with_reducible refine wpList_load_guarded (by with_unfolding_all rfl) 40 (.tmp 2) rfl w.heap.size 0 rfl cs _ hrC Tryz.underlying40 rfl hi.out ?_)
   | (with_reducible refine wpList_load_guarded (by with_unfolding_all rfl) 40 (.tmp 2) rfl w.heap.size 0 rfl cs _ hrB Tryz.underlying40 rfl hi.out ?_)
   | (go_at_call 77; with_reducible refine hF.mono ?_; rintro e w' ⟨rfl, hW⟩; replace hW := hW.symm; subst hW; dsimp only)
   | (go_at_call 78; with_reducible refine hP.mono ?_; rintro e w' ⟨rfl, hW⟩; replace hW := hW.symm; subst hW; dsimp only)
   | (go_at_call 79; with_reducible refine (hG _ hbb).mono ?_; rintro e wA ⟨rfl, hcA⟩; have hbA := hbb.trans (hcA.mono hbb.size); have x0A := (hcA.cell (p := ⟨w.heap.size, 0, none⟩) hlt0).trans x00; have x1A := (hcA.cell (p := ⟨w.heap.size, 1, none⟩) hlt0).trans x10; have x17A := (hcA.cell (p := ⟨w.heap.size, 17, none⟩) hlt0).trans x170; have hrA := range_below hr0 hcA hlt0; have hltA := Nat.lt_of_lt_of_le hlt0 hcA.size; clear hcA)
   | (go_at_call 80; with_reducible refine (hO _ hbA).mono ?_; rintro e wB ⟨rfl, hcB⟩; have hbB := hbA.trans (hcB.mono hbA.size); have x0B := (hcB.cell (p := ⟨w.heap.size, 0, none⟩) hltA).trans x0A; have x1B := (hcB.cell (p := ⟨w.heap.size, 1, none⟩) hltA).trans x1A; have x17B := (hcB.cell (p := ⟨w.heap.size, 17, none⟩) hltA).trans x17A; have hrB := range_below hrA hcB hltA; have hltB := Nat.lt_of_lt_of_le hltA hcB.size; clear hcB)
   | (go_at_call 76; with_reducible refine (hS _ hbB).mono ?_; rintro e wC ⟨rfl, hcC⟩; have hbC := hbB.trans (hcC.mono hbB.size); have x0C := (hcC.cell (p := ⟨w.heap.size, 0, none⟩) hltB).trans x0B; have x1C := (hcC.cell (p := ⟨w.heap.size, 1, none⟩) hltB).trans x1B; have x17C := (hcC.cell (p := ⟨w.heap.size, 17, none⟩) hltB).trans x17B; have hrC := range_below hrB hcC hltB; have hltC := Nat.lt_of_lt_of_le hltB hcC.size; clear hcC)
   | fail)
  go_ret
  refine ⟨rfl, ?_⟩
  first | exact hbC | exact hbB | exact hbA | exact hbb
def subs12 (t : Int) : List ResD → Int
 | [] => 0
 | .mk f s :: ts => if own12 f s.length t = 0 then subs12 t ts else own12 f s.length t
def right12 (f : ResF) (subs : List ResD) : Int :=
 if own12 f subs.length 0 = 0 then (if 1024 < subs.length then 3 else subs12 f.type subs) else own12 f subs.length 0
theorem refright12_any (f : ResF) (subs : List ResD) (A : Nat → Prop) (pre cs L : List Value) (hL : L = pre ++ cs) (hp : pre.length = 3) (hz : pre[2]? = some (.int .i32 0)) (w : World) (hok : ResOk (.mk f subs)) (hR : ResR A w (.mk f subs) cs) (hA : ∀ b, A b → b < w.heap.size) :
  Calls Tryz.prog 20 #[.agg L.toArray] w fun e w' => e = .returned (.int .i64 (right12 f subs)) ∧ Below w.heap.size w w' := by
 have hT := hR.own
 rw [ResOk] at hok
 obtain ⟨hf, hsl, hso⟩ := hok
 have hlen := hT.len
 rw [ResR] at hR
 obtain ⟨vd, va, vi, vp, vs, rows, hcs, h1, h2, h3, h4, h5, h6⟩ := hR
 have l5 : rows.length = subs.length := h6.len'
 obtain ⟨s5, q5, rfl⟩ := h5.len'
 rw [l5] at h5 hcs
 obtain ⟨n, hn⟩ : ∃ n, subs.length = n := ⟨_, rfl⟩
 rw [hn] at h5 hcs hT hsl
 have cv : ∀ (W : World) (b o : Nat), W.rangeAt b o L → W.rangeAt b o (pre ++ cs) := fun W b o h => by rw [← hL]; exact h
 have hg0 : ((w.alloc (.cells L.toArray 42))).heap[w.heap.size]? = some (.cells L.toArray 42 (0, 0)) := heap_alloc_new w _
 have hran : ((w.alloc (.cells L.toArray 42))).rangeAt w.heap.size 3 cs := by
  have := st_range hg0
  rw [List.toList_toArray] at this
  have := range_right (cv _ _ _ this)
  rwa [hp, Nat.zero_add] at this
 have bW : Below w.heap.size w (w.alloc (.cells L.toArray 42)) := (Below.refl w.heap.size w).alloc (Nat.le_refl _) _
 have hlt0 : w.heap.size < ((w.alloc (.cells L.toArray 42))).heap.size := by simp
 have c2 : ((w.alloc (.cells L.toArray 42))).cell? ⟨w.heap.size, 2, none⟩ = some (.int .i32 0) := st_at hg0 (by rw [List.getElem?_toArray, hL, List.getElem?_append_left (by rw [hp]; decide), hz])
 have x30 : ((w.alloc (.cells L.toArray 42))).cell? ⟨w.heap.size, 3, none⟩ = some (.int .i32 f.type) := hran 0 _ (by rw [hcs]; rfl)
 have x240 : ((w.alloc (.cells L.toArray 42))).cell? ⟨w.heap.size, 24, none⟩ = some (.slice s5 n q5) := hran 21 (.slice s5 n q5) (by rw [hcs]; rfl)
 have hi : (Tryz.prog.info? 40).map (·.size) = some cs.length := by rw [hlen]; kernel_rfl
 have hOwn := fun (W : World) (hb : Below w.heap.size w W) => refown12_any f hf n 0 A cs W (hT.below hA hb) (fun b hb' => Nat.lt_of_lt_of_le (hA b hb') hb.size)
 obtain ⟨R, hRR⟩ : ∃ R, right12 f subs = R := ⟨_, rfl⟩
 rw [hRR]
 unfold right12 at hRR
 rw [hn] at hRR
 generalize own12 f n 0 = O at hRR hOwn
 have HR := Lib.hid hRR
 have HI := Lib.hid hi
 have HN := Lib.hid hn
 clear cv hRR hi hn hT hcs h1 h2 h3 h4 hL hp hz l5 hlen hg0
 go_enter Tryz.func20, Tryz.ntmps20
 by_cases o1 : O = 0
 ·have hR := HR.out
  rw [if_pos o1] at hR
  subst o1
  by_cases g1 : 1024 < n
  ·rw [if_pos g1] at hR
   subst hR
   have g1z : (1024 : Int) < n := by omega
   clear HR
   go_wp2_with (first
   | (with_reducible refine wpList_load_mid rfl 40 (.tmp 12) rfl w.heap.size 3 rfl cs _ hran Tryz.underlying40 rfl HI.out ?_)
   | (go_at_call 43; with_reducible refine (hOwn _ bW).mono ?_; rintro e V ⟨rfl, bV'⟩; have bV := bW.trans (bV'.mono bW.size); have x3v := (bV'.cell (p := ⟨w.heap.size, 3, none⟩) hlt0).trans x30; have x24v := (bV'.cell (p := ⟨w.heap.size, 24, none⟩) hlt0).trans x240)
   | fail)
   go_ret
   exact ⟨rfl, bV⟩
  rw [if_neg g1] at hR
  have g1z : ¬ (1024 : Int) < n := by omega
  clear HR
  have HR := Lib.hid hR
  clear hR
  go_wp2_with (first
   | (with_reducible refine wpList_load_mid rfl 40 (.tmp 12) rfl w.heap.size 3 rfl cs _ hran Tryz.underlying40 rfl HI.out ?_)
   | (go_at_call 43; with_reducible refine (hOwn _ bW).mono ?_; rintro e V ⟨rfl, bV'⟩; have bV := bW.trans (bV'.mono bW.size); have x3v := (bV'.cell (p := ⟨w.heap.size, 3, none⟩) hlt0).trans x30; have x24v := (bV'.cell (p := ⟨w.heap.size, 24, none⟩) hlt0).trans x240)
   | fail)
  have szV : w.heap.size + 1 ≤ V.heap.size := by have := bV'.size; simp at this; omega
  have bVh := Lib.hid bV
  clear bV' bW c2 x30 x240 hOwn hran bV hlt0
  go_loopw [2, 3, 4] (fun _ _ i W => ∃ k : Nat, k ≤ n ∧ i = .int .i64 k ∧ RowKit.Hid (subs12 f.type (subs.drop k) = R) ∧ RowKit.Hid (Below V.heap.size V W)) (fun _ _ i _ => n - (intOf i).toNat)
  case atStart => exact ⟨0, Nat.zero_le _, rfl, HR, Lib.hid (Below.refl _ _)⟩
  case round =>
   obtain ⟨k, hk, rfl, HP, hb0⟩ := hrel
   have hb := hb0.out
   clear HR
   have x3r := (hb.cell (p := ⟨w.heap.size, 3, none⟩) (by show w.heap.size < V.heap.size; omega)).trans x3v
   have x24r := (hb.cell (p := ⟨w.heap.size, 24, none⟩) (by show w.heap.size < V.heap.size; omega)).trans x24v
   have bw := bVh.out.trans (hb.mono bVh.out.size)
   have szr : w.heap.size + 1 ≤ wr.heap.size := by have := hb.size; omega
   by_cases hlt : k < n
   ·have hkl : k < subs.length := by rw [HN.out]; exact hlt
    obtain ⟨⟨f', s'⟩, ht⟩ : ∃ t, subs[k]? = some t := ⟨_, List.getElem?_eq_getElem hkl⟩
    obtain ⟨r, hr, hRr⟩ := h6.get ht
    have hok' := hso.get ht
    rw [ResOk] at hok'
    have hTr := hRr.own
    have hlr : r.length = 22 := hTr.len
    obtain ⟨b1, o1', nn1, qq1, e1, hb1, r1⟩ := h5.row hr
    cases e1
    have r1 := range_below r1 bw (hA b1 hb1)
    have hp := HP.out
    rw [List.drop_eq_getElem_cons hkl, show subs[k] = .mk f' s' from (List.getElem?_eq_some_iff.1 ht).2] at hp
    unfold subs12 at hp
    have hi16 : (Tryz.prog.info? 40).map (·.size) = some r.length := by rw [hlr]; kernel_rfl
    have HI2 := Lib.hid hi16
    have hOwn := refown12_any f' hok'.1 s'.length f.type A r wr.drew ((hTr.below hA bw).below (fun b hb' => Nat.lt_of_lt_of_le (hA b hb') bw.size) (Below.refl _ wr).drew) (fun b hb' => Nat.lt_of_lt_of_le (hA b hb') bw.size)
    generalize own12 f' s'.length f.type = O at hOwn hp
    have HP2 := Lib.hid hp
    clear HP hp hTr hRr hr hi16 hlr
    go_wp2
    have hu := Tryz.underlying40
    have hi := HI2.out
    refine wp_region_held_drew (S := (fun w' => w'.cell? ⟨w.heap.size, 24, none⟩ = some (.slice (some ⟨b1, o1', none⟩) n q5) ∧ w'.rangeAt b1 (o1' + k * 22) r ∧ w'.cell? ⟨w.heap.size, 3, none⟩ = some (.int .i32 f.type))) (by kernel_rfl) ⟨x24r, r1, x3r⟩ (fun hHeld => ?_)
    refine wpAnyH_take (i := 0) (v := .pointer (some ⟨w.heap.size, 3, none⟩)) rfl (by kernel_rfl) (by kernel_rfl) (by kernel_rfl) (fun _ _ _ h => h) (Or.inl ⟨by rfl, fun w hSw => by go_simp⟩) hHeld ?_
    refine wpAnyH_take (i := 1) (v := .pointer (some ⟨w.heap.size, 24, none⟩)) rfl (by kernel_rfl) (by kernel_rfl) (by kernel_rfl) (fun _ _ _ h => h) (Or.inl ⟨by rfl, fun w hSw => by go_simp⟩) hHeld ?_
    refine wpAnyH_take (i := 2) (v := (.slice (some ⟨b1, o1', none⟩) n q5)) rfl (by kernel_rfl) (by kernel_rfl) (by kernel_rfl) (fun _ _ _ h => h) (Or.inl ⟨by rfl, fun w hSw => by obtain ⟨hS1, _, _⟩ := hSw; go_simp⟩) hHeld ?_
    refine wpAnyH_take (i := 3) (v := .int .i64 k) rfl (by kernel_rfl) (by kernel_rfl) (by kernel_rfl) (fun _ _ _ h => h) (Or.inl ⟨by rfl, fun w hSw => by go_simp⟩) hHeld ?_
    refine wpAnyH_take (i := 4) (v := (.pointer (some ⟨b1, o1' + k * 22, none⟩))) rfl (by kernel_rfl) (by kernel_rfl) (by kernel_rfl) (fun _ _ _ h => h) (Or.inl ⟨by rfl, fun w hSw => by go_simp⟩) hHeld ?_
    refine wpAnyH_take (i := 5) (v := .agg r.toArray) rfl (by kernel_rfl) (by kernel_rfl) (by kernel_rfl) (fun _ _ _ h => h) (yieldsIf_load_mid (by rfl) 40 (.tmp 35) rfl b1 (o1' + k * 22) rfl r _ (fun w hSw => hSw.2.1) hu rfl hi) hHeld ?_
    refine wpAnyH_take (i := 6) (v := .pointer (some ⟨w.heap.size, 3, none⟩)) rfl (by kernel_rfl) (by kernel_rfl) (by kernel_rfl) (fun _ _ _ h => h) (Or.inl ⟨by rfl, fun w hSw => by go_simp⟩) hHeld ?_
    refine wpAnyH_take (i := 7) (v := .pointer (some ⟨w.heap.size, 3, none⟩)) rfl (by kernel_rfl) (by kernel_rfl) (by kernel_rfl) (fun _ _ _ h => h) (Or.inl ⟨by rfl, fun w hSw => by go_simp⟩) hHeld ?_
    refine wpAnyH_take (i := 8) (v := .int .i32 f.type) rfl (by kernel_rfl) (by kernel_rfl) (by kernel_rfl) (fun _ _ _ h => h) (Or.inl ⟨by rfl, fun w hSw => by obtain ⟨_, _, hS3⟩ := hSw; go_simp⟩) hHeld ?_
    simp only [Act.put, List.setIfInBounds_toArray]
    refine wpAnyH_ready (rs := [9]) (by kernel_rfl) (by simp) ?_
    refine AllReadyH.cons (o := { dst := some 40, op := Op.call { callee := Callee.value (Operand.func 43), args := #[Operand.tmp 36, Operand.tmp 39], argTypes := #[40, 21] }, type := 3, pos := "ref.go:159", after := #[{ on := 5, ground := Ground.data }, { on := 8, ground := Ground.data }], guard := none }) rfl (fun K hK => ?_) AllReadyH.nil
    go_simp
    refine hOwn.mono ?_
    rintro e w6 ⟨rfl, hb6⟩
    have hb6' : Below wr.heap.size wr w6 := (Below.refl _ wr).drew.trans hb6
    have hb1r : b1 < wr.heap.size := Nat.lt_of_lt_of_le (hA b1 hb1) bw.size
    refine hK.out _ _ ⟨(hb6'.cell (p := ⟨w.heap.size, 24, none⟩) (by show w.heap.size < wr.heap.size; omega)).trans x24r, range_below r1 hb6' hb1r, (hb6'.cell (p := ⟨w.heap.size, 3, none⟩) (by show w.heap.size < wr.heap.size; omega)).trans x3r⟩ (fun hHeld => ?_)
    clear hK K
    refine wpAnyH_take (i := 10) (oi := { dst := some 3, op := Op.assign (Operand.tmp 40), type := 3, pos := "ref.go:159", after := #[{ on := 9, ground := Ground.data }, { on := 9, ground := Ground.chain }, { on := 0, ground := Ground.phase }, { on := 1, ground := Ground.phase }, { on := 2, ground := Ground.phase }, { on := 3, ground := Ground.phase }, { on := 4, ground := Ground.phase }, { on := 5, ground := Ground.phase }, { on := 6, ground := Ground.phase }, { on := 7, ground := Ground.phase }, { on := 8, ground := Ground.phase }, { on := 9, ground := Ground.phase }], guard := none }) (v := .int .i64 O) rfl (by kernel_rfl) (by kernel_rfl) (by kernel_rfl) (fun _ _ _ h => h) (Or.inl ⟨by rfl, fun w hSw => by go_simp⟩) hHeld ?_
    simp only [Act.put, List.setIfInBounds_toArray]
    refine wpAnyH_done (by kernel_rfl) ?_ _
    have bw6 := bw.trans (hb6'.mono bw.size)
    have hb6V : Below V.heap.size V w6 := hb.trans (hb6'.mono hb.size)
    clear hHeld
    by_cases o1 : O = 0
    ·have hp := HP2.out
     rw [if_pos o1] at hp
     subst o1
     clear HP2
     have HX := Lib.hid hp
     have HB := Lib.hid hb6V
     clear hp hb6V
     go_wp2
     go_roundw
     case rel => exact ⟨k + 1, by omega, by go_num, HX, HB⟩
     case measure => simp [intOf]; omega
    ·have hp := HP2.out
     rw [if_neg o1] at hp
     subst hp
     have o2 : (O == 0) = false := by simpa using o1
     clear HP2
     go_wp2
     go_ret
     exact ⟨rfl, bw6⟩
   ·obtain rfl : n = k := by omega
    have hp := HP.out
    rw [List.drop_of_length_le (by rw [HN.out]; exact Nat.le_refl _)] at hp
    unfold subs12 at hp
    subst hp
    clear HP
    go_wp2
    go_ret
    exact ⟨rfl, bw⟩
 ·have hR := HR.out
  rw [if_neg o1] at hR
  subst hR
  have o2 : (O == 0) = false := by simpa using o1
  go_wp2_with (first
   | (with_reducible refine wpList_load_mid rfl 40 (.tmp 12) rfl w.heap.size 3 rfl cs _ hran Tryz.underlying40 rfl HI.out ?_)
   | (go_at_call 43; with_reducible refine (hOwn _ bW).mono ?_; rintro e V ⟨rfl, bV'⟩; have bV := bW.trans (bV'.mono bW.size); have x3v := (bV'.cell (p := ⟨w.heap.size, 3, none⟩) hlt0).trans x30; have x24v := (bV'.cell (p := ⟨w.heap.size, 24, none⟩) hlt0).trans x240)
   | fail)
  go_ret
  exact ⟨rfl, bV⟩
theorem pinner_any (t i : Int) (w : World) : Calls Tryz.prog 71 #[.int .i32 i, .int .i32 t] w fun e w' => e = .returned (.bool (part12 t i)) ∧ w' = w := by
 have hi : i = 14 ∨ i = 22 ∨ ((i == 14) = false ∧ (i == 22) = false) := by simp only [beq_eq_false_iff_ne, ne_eq]; omega
 rcases part_cases t with rfl | rfl | rfl | rfl | rfl | rfl | rfl | rfl | rfl | rfl | rfl | rfl | rfl | rfl | rfl | rfl | h
 case inr.inr.inr.inr.inr.inr.inr.inr.inr.inr.inr.inr.inr.inr.inr.inr =>
  rw [otherP_part h]
  unfold OtherP at h
  obtain ⟨o0, o1, o2, o3, o4, o5, o6, o7, o8, o9, o10, o11, o12, o13, o14, o15⟩ := h
  go_enter Tryz.func71, Tryz.ntmps71
  go_wp2
  go_ret
  exact ⟨rfl, rfl⟩
 all_goals
  rcases hi with rfl | rfl | ⟨i1, i2⟩
  all_goals
   go_enter Tryz.func71, Tryz.ntmps71
   go_wp2
   go_ret
   refine ⟨ret_bool ?_, rfl⟩
   simp_all [part12]
def codesP (t : Int) : List Int :=
 if t = 1 ∨ t = 9 then [1]
 else if t = 15 ∨ t = 19 ∨ t = 21 then [1, 2]
 else if t = 3 ∨ t = 5 ∨ t = 7 then [2]
 else if t = 4 then [3, 2]
 else if t = 6 then [4, 2]
 else if t = 8 ∨ t = 103 then [5]
 else if t = 12 then [5, 2]
 else if t = 104 then [6]
 else if t = -10 ∨ t = 107 then [7]
 else if t = 14 ∨ t = 22 then [8]
 else []
def okP (t : Int) : Bool := decide (fields12 t ≠ [63] ∧ t ≠ -1)
def codeCells (c : Int) : List Value := [.int .i64 c]
def FieldsPost (t : Int) (w : World) (e : Ending) (w' : World) : Prop :=
 ∃ v, e = .returned (.tuple #[v, .bool (okP t)]) ∧ SlR (fun b => w.heap.size ≤ b ∧ b < w'.heap.size) w' 1 v ((codesP t).map codeCells) ∧ Below w.heap.size w w'
theorem slr_nil0 {A : Nat → Prop} {w : World} {sz : Nat} : SlR A w sz (.slice none 0 0) [] :=
 ⟨⟨none, 0, 0, rfl, rfl, Nat.le_refl _, by decide, fun _ => rfl, ⟨by simp, fun h => absurd h (by omega)⟩, fun h => absurd h (by omega)⟩, fun r hr => by cases hr⟩
theorem slr_new (w : World) (T : TypeId) (cs : List Int) (n : Nat) (hn : cs.length = n) (h : n ≤ 8) : SlR (fun b => w.heap.size ≤ b ∧ b < (w.alloc (.cells (cs.map fun c => Value.int .i64 c).toArray T)).heap.size) (w.alloc (.cells (cs.map fun c => Value.int .i64 c).toArray T)) 1 (.slice (some ⟨w.heap.size, 0, none⟩) n n) (cs.map codeCells) := by
 have hf : (cs.map codeCells).flatten = cs.map fun c => Value.int .i64 c := by
  induction cs generalizing n with
  | nil => rfl
  | cons c cs ih => simp only [List.map_cons, List.flatten_cons]; rw [ih cs.length rfl (by simp at hn; omega)]; rfl
 refine ⟨⟨some ⟨w.heap.size, 0, none⟩, n, n, rfl, by rw [List.length_map, hn], Nat.le_refl _, (by unfold maxLen; omega), (fun h => by cases h), ⟨?_, fun _ => ⟨w.heap.size, 0, rfl, fun k u hu => ?_⟩⟩, (fun _ x hx => by cases hx; exact ⟨Nat.le_refl _, by simp⟩)⟩, fun r hr => ?_⟩
 ·rw [hf, List.length_map, hn, Nat.mul_one]
 ·rw [hf] at hu
  exact new_range w _ T k u hu
 ·obtain ⟨c, _, rfl⟩ := List.mem_map.1 hr
  rfl
theorem pfields_any (t : Int) (w : World) : Calls Tryz.prog 36 #[.int .i32 t] w fun e w' => FieldsPost t w e w' := by
 rcases res_cases t with rfl | rfl | rfl | rfl | rfl | rfl | rfl | rfl | rfl | rfl | rfl | rfl | rfl | rfl | rfl | rfl | rfl | rfl | rfl | rfl | rfl | rfl | rfl | rfl | rfl | rfl | rfl | rfl | rfl | h
 ·go_enter Tryz.func36, Tryz.ntmps36
  go_wp2
  go_ret2
  exact ⟨_, rfl, slr_new w 120 [1] 1 rfl (by decide), (Below.refl _ _).alloc (Nat.le_refl _) _⟩
 ·go_enter Tryz.func36, Tryz.ntmps36
  go_wp2
  go_ret2
  exact ⟨_, rfl, slr_new w 120 [1] 1 rfl (by decide), (Below.refl _ _).alloc (Nat.le_refl _) _⟩
 ·go_enter Tryz.func36, Tryz.ntmps36
  go_wp2
  go_ret2
  exact ⟨_, rfl, slr_new w 120 [1, 2] 2 rfl (by decide), (Below.refl _ _).alloc (Nat.le_refl _) _⟩
 ·go_enter Tryz.func36, Tryz.ntmps36
  go_wp2
  go_ret2
  exact ⟨_, rfl, slr_new w 120 [1, 2] 2 rfl (by decide), (Below.refl _ _).alloc (Nat.le_refl _) _⟩
 ·go_enter Tryz.func36, Tryz.ntmps36
  go_wp2
  go_ret2
  exact ⟨_, rfl, slr_new w 120 [1, 2] 2 rfl (by decide), (Below.refl _ _).alloc (Nat.le_refl _) _⟩
 ·go_enter Tryz.func36, Tryz.ntmps36
  go_wp2
  go_ret2
  exact ⟨_, rfl, slr_new w 120 [2] 1 rfl (by decide), (Below.refl _ _).alloc (Nat.le_refl _) _⟩
 ·go_enter Tryz.func36, Tryz.ntmps36
  go_wp2
  go_ret2
  exact ⟨_, rfl, slr_new w 120 [2] 1 rfl (by decide), (Below.refl _ _).alloc (Nat.le_refl _) _⟩
 ·go_enter Tryz.func36, Tryz.ntmps36
  go_wp2
  go_ret2
  exact ⟨_, rfl, slr_new w 120 [2] 1 rfl (by decide), (Below.refl _ _).alloc (Nat.le_refl _) _⟩
 ·go_enter Tryz.func36, Tryz.ntmps36
  go_wp2
  go_ret2
  exact ⟨_, rfl, slr_new w 120 [3, 2] 2 rfl (by decide), (Below.refl _ _).alloc (Nat.le_refl _) _⟩
 ·go_enter Tryz.func36, Tryz.ntmps36
  go_wp2
  go_ret2
  exact ⟨_, rfl, slr_new w 120 [4, 2] 2 rfl (by decide), (Below.refl _ _).alloc (Nat.le_refl _) _⟩
 ·go_enter Tryz.func36, Tryz.ntmps36
  go_wp2
  go_ret2
  exact ⟨_, rfl, slr_new w 120 [5] 1 rfl (by decide), (Below.refl _ _).alloc (Nat.le_refl _) _⟩
 ·go_enter Tryz.func36, Tryz.ntmps36
  go_wp2
  go_ret2
  exact ⟨_, rfl, slr_new w 120 [5] 1 rfl (by decide), (Below.refl _ _).alloc (Nat.le_refl _) _⟩
 ·go_enter Tryz.func36, Tryz.ntmps36
  go_wp2
  go_ret2
  exact ⟨_, rfl, slr_new w 120 [5, 2] 2 rfl (by decide), (Below.refl _ _).alloc (Nat.le_refl _) _⟩
 ·go_enter Tryz.func36, Tryz.ntmps36
  go_wp2
  go_ret2
  exact ⟨_, rfl, slr_new w 120 [6] 1 rfl (by decide), (Below.refl _ _).alloc (Nat.le_refl _) _⟩
 ·go_enter Tryz.func36, Tryz.ntmps36
  go_wp2
  go_ret2
  exact ⟨_, rfl, slr_new w 120 [7] 1 rfl (by decide), (Below.refl _ _).alloc (Nat.le_refl _) _⟩
 ·go_enter Tryz.func36, Tryz.ntmps36
  go_wp2
  go_ret2
  exact ⟨_, rfl, slr_new w 120 [7] 1 rfl (by decide), (Below.refl _ _).alloc (Nat.le_refl _) _⟩
 ·go_enter Tryz.func36, Tryz.ntmps36
  go_wp2
  go_ret2
  exact ⟨_, rfl, slr_new w 120 [8] 1 rfl (by decide), (Below.refl _ _).alloc (Nat.le_refl _) _⟩
 ·go_enter Tryz.func36, Tryz.ntmps36
  go_wp2
  go_ret2
  exact ⟨_, rfl, slr_new w 120 [8] 1 rfl (by decide), (Below.refl _ _).alloc (Nat.le_refl _) _⟩
 ·go_enter Tryz.func36, Tryz.ntmps36
  go_wp2
  go_ret2
  exact ⟨_, rfl, slr_nil0, Below.refl _ _⟩
 ·go_enter Tryz.func36, Tryz.ntmps36
  go_wp2
  go_ret2
  exact ⟨_, rfl, slr_nil0, Below.refl _ _⟩
 ·go_enter Tryz.func36, Tryz.ntmps36
  go_wp2
  go_ret2
  exact ⟨_, rfl, slr_nil0, Below.refl _ _⟩
 ·go_enter Tryz.func36, Tryz.ntmps36
  go_wp2
  go_ret2
  exact ⟨_, rfl, slr_nil0, Below.refl _ _⟩
 ·go_enter Tryz.func36, Tryz.ntmps36
  go_wp2
  go_ret2
  exact ⟨_, rfl, slr_nil0, Below.refl _ _⟩
 ·go_enter Tryz.func36, Tryz.ntmps36
  go_wp2
  go_ret2
  exact ⟨_, rfl, slr_nil0, Below.refl _ _⟩
 ·go_enter Tryz.func36, Tryz.ntmps36
  go_wp2
  go_ret2
  exact ⟨_, rfl, slr_nil0, Below.refl _ _⟩
 ·go_enter Tryz.func36, Tryz.ntmps36
  go_wp2
  go_ret2
  exact ⟨_, rfl, slr_nil0, Below.refl _ _⟩
 ·go_enter Tryz.func36, Tryz.ntmps36
  go_wp2
  go_ret2
  exact ⟨_, rfl, slr_nil0, Below.refl _ _⟩
 ·go_enter Tryz.func36, Tryz.ntmps36
  go_wp2
  go_ret2
  exact ⟨_, rfl, slr_nil0, Below.refl _ _⟩
 ·go_enter Tryz.func36, Tryz.ntmps36
  go_wp2
  go_ret2
  exact ⟨_, rfl, slr_nil0, Below.refl _ _⟩
 ·have h1 : okP t = false := by unfold okP; rw [other12_fields h]; rfl
  have h2 : codesP t = [] := by
   unfold Other12 at h
   simp only [beq_eq_false_iff_ne, ne_eq] at h
   unfold codesP
   repeat' rw [if_neg (by omega)]
  unfold FieldsPost
  rw [h1, h2]
  unfold Other12 at h
  obtain ⟨o0, o1, o2, o3, o4, o5, o6, o7, o8, o9, o10, o11, o12, o13, o14, o15, o16, o17, o18, o19, o20, o21, o22, o23, o24, o25, o26, o27, o28⟩ := h
  go_enter Tryz.func36, Tryz.ntmps36
  go_wp2
  go_ret2
  exact ⟨_, rfl, slr_nil0, Below.refl _ _⟩
def emptyD (f : ResF) (n1 n2 n3 n4 n : Nat) : Bool := f.code == 0 && (f.path.toList.isEmpty && (eqStatD f.stat StatD.zero && (decide (n1 = 0) && (decide (n2 = 0) && (decide (n3 = 0) && (f.count == 0 && (f.sid == 0 && (f.timeout == 0 && (decide (n4 = 0) && decide (n = 0))))))))))
abbrev ZP190 (x0 : World) (x1 : List Value) (x2 : ResF) (x3 : Option Addr) (x4 x5 : Nat) : World := ((x0.alloc (.cells x1.toArray 40)).alloc (.cells #[.int .i64 x2.sid, .int .i32 x2.timeout, .slice x3 x4 x5] 28))
theorem pempty_any (f : ResF) (a1 a2 a3 a4 a5 : Option Addr) (n1 n2 n3 n4 n c1 c2 c3 c4 c5 : Nat) (cs : List Value) (w : World) (hcs : cs = f.cells (.slice a1 n1 c1) (.slice a2 n2 c2) (.slice a3 n3 c3) (.slice a4 n4 c4) (.slice a5 n c5)) :
  Calls Tryz.prog 35 #[.agg cs.toArray] w fun e w' => e = .returned (.bool (emptyD f n1 n2 n3 n4 n)) ∧ Below w.heap.size w w' := by
 have hb0 : Below w.heap.size w (w.alloc (.cells cs.toArray 40)) := (Below.refl w.heap.size w).alloc (Nat.le_refl _) _
 have hbb : Below w.heap.size w (ZP190 w cs f a4 n4 c4) := hb0.alloc (by simp) _
 have hr0 : (w.alloc (.cells cs.toArray 40)).rangeAt w.heap.size 0 cs := st_range (heap_alloc_new w _)
 have hb1 : Below (w.alloc (.cells cs.toArray 40)).heap.size (w.alloc (.cells cs.toArray 40)) (ZP190 w cs f a4 n4 c4) := (Below.refl _ _).alloc (Nat.le_refl _) _
 have X1 : (ZP190 w cs f a4 n4 c4).cell? ⟨w.heap.size, 1, none⟩ = some (.int .i32 f.code) := cell_stays hb1 (hr0 1 _ (by rw [hcs]; rfl))
 have X2 : (ZP190 w cs f a4 n4 c4).cell? ⟨w.heap.size, 2, none⟩ = some (.string f.path) := cell_stays hb1 (hr0 2 _ (by rw [hcs]; rfl))
 have X3 : (ZP190 w cs f a4 n4 c4).cell? ⟨w.heap.size, 3, none⟩ = some (.int .i64 f.czxid) := cell_stays hb1 (hr0 3 _ (by rw [hcs]; rfl))
 have X4 : (ZP190 w cs f a4 n4 c4).cell? ⟨w.heap.size, 4, none⟩ = some (.int .i64 f.mzxid) := cell_stays hb1 (hr0 4 _ (by rw [hcs]; rfl))
 have X5 : (ZP190 w cs f a4 n4 c4).cell? ⟨w.heap.size, 5, none⟩ = some (.int .i64 f.ctime) := cell_stays hb1 (hr0 5 _ (by rw [hcs]; rfl))
 have X6 : (ZP190 w cs f a4 n4 c4).cell? ⟨w.heap.size, 6, none⟩ = some (.int .i64 f.mtime) := cell_stays hb1 (hr0 6 _ (by rw [hcs]; rfl))
 have X7 : (ZP190 w cs f a4 n4 c4).cell? ⟨w.heap.size, 7, none⟩ = some (.int .i32 f.version) := cell_stays hb1 (hr0 7 _ (by rw [hcs]; rfl))
 have X8 : (ZP190 w cs f a4 n4 c4).cell? ⟨w.heap.size, 8, none⟩ = some (.int .i32 f.cversion) := cell_stays hb1 (hr0 8 _ (by rw [hcs]; rfl))
 have X9 : (ZP190 w cs f a4 n4 c4).cell? ⟨w.heap.size, 9, none⟩ = some (.int .i32 f.aversion) := cell_stays hb1 (hr0 9 _ (by rw [hcs]; rfl))
 have X10 : (ZP190 w cs f a4 n4 c4).cell? ⟨w.heap.size, 10, none⟩ = some (.int .i64 f.owner) := cell_stays hb1 (hr0 10 _ (by rw [hcs]; rfl))
 have X11 : (ZP190 w cs f a4 n4 c4).cell? ⟨w.heap.size, 11, none⟩ = some (.int .i32 f.dlen) := cell_stays hb1 (hr0 11 _ (by rw [hcs]; rfl))
 have X12 : (ZP190 w cs f a4 n4 c4).cell? ⟨w.heap.size, 12, none⟩ = some (.int .i32 f.nkids) := cell_stays hb1 (hr0 12 _ (by rw [hcs]; rfl))
 have X13 : (ZP190 w cs f a4 n4 c4).cell? ⟨w.heap.size, 13, none⟩ = some (.int .i64 f.pzxid) := cell_stays hb1 (hr0 13 _ (by rw [hcs]; rfl))
 have X14 : (ZP190 w cs f a4 n4 c4).cell? ⟨w.heap.size, 14, none⟩ = some (.slice a1 n1 c1) := cell_stays hb1 (hr0 14 _ (by rw [hcs]; rfl))
 have X15 : (ZP190 w cs f a4 n4 c4).cell? ⟨w.heap.size, 15, none⟩ = some (.slice a2 n2 c2) := cell_stays hb1 (hr0 15 _ (by rw [hcs]; rfl))
 have X16 : (ZP190 w cs f a4 n4 c4).cell? ⟨w.heap.size, 16, none⟩ = some (.slice a3 n3 c3) := cell_stays hb1 (hr0 16 _ (by rw [hcs]; rfl))
 have X17 : (ZP190 w cs f a4 n4 c4).cell? ⟨w.heap.size, 17, none⟩ = some (.int .i32 f.count) := cell_stays hb1 (hr0 17 _ (by rw [hcs]; rfl))
 have X18 : (w.alloc (.cells cs.toArray 40)).cell? ⟨w.heap.size, 18, none⟩ = some (.int .i64 f.sid) := hr0 18 _ (by rw [hcs]; rfl)
 have X19 : (w.alloc (.cells cs.toArray 40)).cell? ⟨w.heap.size, 19, none⟩ = some (.int .i32 f.timeout) := hr0 19 _ (by rw [hcs]; rfl)
 have X20 : (w.alloc (.cells cs.toArray 40)).cell? ⟨w.heap.size, 20, none⟩ = some (.slice a4 n4 c4) := hr0 20 _ (by rw [hcs]; rfl)
 have X21 : (ZP190 w cs f a4 n4 c4).cell? ⟨w.heap.size, 21, none⟩ = some (.slice a5 n c5) := cell_stays hb1 (hr0 21 _ (by rw [hcs]; rfl))
 have S0 : (ZP190 w cs f a4 n4 c4).cell? ⟨w.heap.size + 1, 0, none⟩ = some (.int .i64 f.sid) := by
  have := heap_alloc_new (w.alloc (.cells cs.toArray 40)) (.cells #[.int .i64 f.sid, .int .i32 f.timeout, .slice a4 n4 c4] 28)
  rw [show (w.alloc (.cells cs.toArray 40)).heap.size = w.heap.size + 1 by simp] at this
  exact st_at this rfl
 have S1 : (ZP190 w cs f a4 n4 c4).cell? ⟨w.heap.size + 1, 1, none⟩ = some (.int .i32 f.timeout) := by
  have := heap_alloc_new (w.alloc (.cells cs.toArray 40)) (.cells #[.int .i64 f.sid, .int .i32 f.timeout, .slice a4 n4 c4] 28)
  rw [show (w.alloc (.cells cs.toArray 40)).heap.size = w.heap.size + 1 by simp] at this
  exact st_at this rfl
 have S2 : (ZP190 w cs f a4 n4 c4).cell? ⟨w.heap.size + 1, 2, none⟩ = some (.slice a4 n4 c4) := by
  have := heap_alloc_new (w.alloc (.cells cs.toArray 40)) (.cells #[.int .i64 f.sid, .int .i32 f.timeout, .slice a4 n4 c4] 28)
  rw [show (w.alloc (.cells cs.toArray 40)).heap.size = w.heap.size + 1 by simp] at this
  exact st_at this rfl
 obtain ⟨R, hR⟩ : ∃ R, emptyD f n1 n2 n3 n4 n = R := ⟨_, rfl⟩
 rw [hR]
 unfold emptyD at hR
 have hq7 := eql_stat f.stat StatD.zero
 obtain ⟨e7, he7⟩ : ∃ e, eqStatD f.stat StatD.zero = e := ⟨_, rfl⟩
 obtain ⟨b1, hb1'⟩ : ∃ e, f.path.toList.isEmpty = e := ⟨_, rfl⟩
 obtain ⟨e1, he1⟩ : ∃ e, (f.code == 0) = e := ⟨_, rfl⟩
 obtain ⟨e9, he9⟩ : ∃ e, (f.count == 0) = e := ⟨_, rfl⟩
 obtain ⟨e11, he11⟩ : ∃ e, (f.sid == 0) = e := ⟨_, rfl⟩
 obtain ⟨e12, he12⟩ : ∃ e, (f.timeout == 0) = e := ⟨_, rfl⟩
 rw [he7] at hq7 hR
 rw [hb1', he1, he9, he11, he12] at hR
 simp only [ResF.stat, StatD.zero, StatD.cells] at hq7
 have HB := Lib.hid hbb
 clear he7 hb0 hbb hr0 hb1 hcs
 cases e1 with
 | false =>
  obtain rfl : R = false := by rw [← hR]; simp
  go_enter Tryz.func35, Tryz.ntmps35
  go_wp2
  go_ret
  first | exact ⟨rfl, HB.out⟩ | exact ⟨ret_bool (by simp [k5]), HB.out⟩ | exact ⟨ret_bool (by simp; omega), HB.out⟩
 | true =>
  rw [Bool.true_and] at hR
  cases b1 with
  | false =>
   obtain rfl : R = false := by rw [← hR]; simp
   go_enter Tryz.func35, Tryz.ntmps35
   go_wp2
   go_ret
   first | exact ⟨rfl, HB.out⟩ | exact ⟨ret_bool (by simp [k5]), HB.out⟩ | exact ⟨ret_bool (by simp; omega), HB.out⟩
  | true =>
   rw [Bool.true_and] at hR
   cases e7 with
   | false =>
    obtain rfl : R = false := by rw [← hR]; simp
    go_enter Tryz.func35, Tryz.ntmps35
    go_wp2
    go_ret
    first | exact ⟨rfl, HB.out⟩ | exact ⟨ret_bool (by simp [k5]), HB.out⟩ | exact ⟨ret_bool (by simp; omega), HB.out⟩
   | true =>
    rw [Bool.true_and] at hR
    by_cases k1 : n1 = 0
    case neg =>
     obtain rfl : R = false := by rw [← hR]; simp [k1]
     go_enter Tryz.func35, Tryz.ntmps35
     go_wp2
     go_ret
     first | exact ⟨rfl, HB.out⟩ | exact ⟨ret_bool (by simp [k5]), HB.out⟩ | exact ⟨ret_bool (by simp; omega), HB.out⟩
    subst k1
    rw [decide_eq_true rfl, Bool.true_and] at hR
    by_cases k2 : n2 = 0
    case neg =>
     obtain rfl : R = false := by rw [← hR]; simp [k2]
     go_enter Tryz.func35, Tryz.ntmps35
     go_wp2
     go_ret
     first | exact ⟨rfl, HB.out⟩ | exact ⟨ret_bool (by simp [k5]), HB.out⟩ | exact ⟨ret_bool (by simp; omega), HB.out⟩
    subst k2
    rw [decide_eq_true rfl, Bool.true_and] at hR
    by_cases k3 : n3 = 0
    case neg =>
     obtain rfl : R = false := by rw [← hR]; simp [k3]
     go_enter Tryz.func35, Tryz.ntmps35
     go_wp2
     go_ret
     first | exact ⟨rfl, HB.out⟩ | exact ⟨ret_bool (by simp [k5]), HB.out⟩ | exact ⟨ret_bool (by simp; omega), HB.out⟩
    subst k3
    rw [decide_eq_true rfl, Bool.true_and] at hR
    cases e9 with
    | false =>
     obtain rfl : R = false := by rw [← hR]; simp
     go_enter Tryz.func35, Tryz.ntmps35
     go_wp2
     go_ret
     first | exact ⟨rfl, HB.out⟩ | exact ⟨ret_bool (by simp [k5]), HB.out⟩ | exact ⟨ret_bool (by simp; omega), HB.out⟩
    | true =>
     rw [Bool.true_and] at hR
     cases e11 with
     | false =>
      obtain rfl : R = false := by rw [← hR]; simp
      go_enter Tryz.func35, Tryz.ntmps35
      go_wp2
      go_ret
      first | exact ⟨rfl, HB.out⟩ | exact ⟨ret_bool (by simp [k5]), HB.out⟩ | exact ⟨ret_bool (by simp; omega), HB.out⟩
     | true =>
      rw [Bool.true_and] at hR
      cases e12 with
      | false =>
       obtain rfl : R = false := by rw [← hR]; simp
       go_enter Tryz.func35, Tryz.ntmps35
       go_wp2
       go_ret
       first | exact ⟨rfl, HB.out⟩ | exact ⟨ret_bool (by simp [k5]), HB.out⟩ | exact ⟨ret_bool (by simp; omega), HB.out⟩
      | true =>
       rw [Bool.true_and] at hR
       by_cases k4 : n4 = 0
       case neg =>
        obtain rfl : R = false := by rw [← hR]; simp [k4]
        go_enter Tryz.func35, Tryz.ntmps35
        go_wp2
        go_ret
        first | exact ⟨rfl, HB.out⟩ | exact ⟨ret_bool (by simp [k5]), HB.out⟩ | exact ⟨ret_bool (by simp; omega), HB.out⟩
       subst k4
       rw [decide_eq_true rfl, Bool.true_and] at hR
       by_cases k5 : n = 0
       case neg =>
        obtain rfl : R = false := by rw [← hR]; simp [k5]
        go_enter Tryz.func35, Tryz.ntmps35
        go_wp2
        go_ret
        first | exact ⟨rfl, HB.out⟩ | exact ⟨ret_bool (by simp [k5]), HB.out⟩ | exact ⟨ret_bool (by simp; omega), HB.out⟩
       subst k5
       obtain rfl : R = true := by rw [← hR]; rfl
       go_enter Tryz.func35, Tryz.ntmps35
       go_wp2
       go_ret
       first | exact ⟨rfl, HB.out⟩ | exact ⟨ret_bool (by simp [k5]), HB.out⟩ | exact ⟨ret_bool (by simp; omega), HB.out⟩
def setL : Nat → List Value → List Value → List Value
 | _, [], ds => ds
 | o, v :: vs, ds => setL (o + 1) vs (ds.set o v)
theorem setL_len : ∀ (vs : List Value) (o : Nat) (ds : List Value), (setL o vs ds).length = ds.length
 | [], _, _ => rfl
 | v :: vs, o, ds => by rw [setL, setL_len vs]; simp
theorem setL_one : ∀ (vs : List Value) (o : Nat) (ds : List Value), (∀ u ∈ ds, u.oneCell' = true) → (∀ u ∈ vs, u.oneCell' = true) → ∀ u ∈ setL o vs ds, u.oneCell' = true
 | [], _, _, h, _ => h
 | v :: vs, o, ds, h, hv => by
  rw [setL]
  refine setL_one vs (o + 1) _ (fun u hu => ?_) (fun u hu => hv u (by simp [hu]))
  rcases List.mem_or_eq_of_mem_set hu with h' | h'
  ·exact h u h'
  ·rw [h']; exact hv v (by simp)
theorem row_setCells : ∀ (vs : List Value) (w : World) (g T o : Nat) (ds : List Value), w.heap[g]? = some (.cells ds.toArray T (0, 0)) → (w.setCells g o vs).heap[g]? = some (.cells (setL o vs ds).toArray T (0, 0))
 | [], _, _, _, _, _, h => h
 | v :: vs, w, g, T, o, ds, h => by
  rw [setL]
  refine row_setCells vs _ g T (o + 1) _ ?_
  rw [st_set h]
  simp
theorem apart_setCells : ∀ (vs : List Value) (w : World) (g o b : Nat), b ≠ g → (w.setCells g o vs).heap[b]? = w.heap[b]?
 | [], _, _, _, _, _ => rfl
 | v :: vs, w, g, o, b, h => by
  show ((w.setCell ⟨g, o, none⟩ v).setCells g (o + 1) vs).heap[b]? = _
  rw [apart_setCells vs _ g (o + 1) b h]
  simp [World.setCell, Array.getElem?_modify, Ne.symm h]
def zeroOf (c : Int) : Nat × List Value :=
 if c = 1 then (2, [.string ⟨#[]⟩]) else if c = 2 then (3, [.int .i64 0, .int .i64 0, .int .i64 0, .int .i64 0, .int .i32 0, .int .i32 0, .int .i32 0, .int .i64 0, .int .i32 0, .int .i32 0, .int .i64 0]) else if c = 3 then (14, [.slice none 0 0]) else if c = 4 then (15, [.slice none 0 0]) else if c = 5 then (16, [.slice none 0 0]) else if c = 6 then (17, [.int .i32 0]) else if c = 7 then (18, [.int .i64 0, .int .i32 0, .slice none 0 0]) else if c = 8 then (21, [.slice none 0 0]) else (0, [])
def wipe (c : Int) (ds : List Value) : List Value := setL (zeroOf c).1 (zeroOf c).2 ds
def wipes : List Int → List Value → List Value
 | [], ds => ds
 | c :: l, ds => wipes l (wipe c ds)
theorem wipes_snoc : ∀ (l : List Int) (c : Int) (ds : List Value), wipes (l ++ [c]) ds = wipe c (wipes l ds)
 | [], _, _ => rfl
 | x :: l, c, ds => by simp only [List.cons_append, wipes]; exact wipes_snoc l c _
theorem wipe_len (c : Int) (ds : List Value) : (wipe c ds).length = ds.length := setL_len _ _ _
theorem wipe_one (c : Int) (ds : List Value) (h : ∀ u ∈ ds, u.oneCell' = true) : ∀ u ∈ wipe c ds, u.oneCell' = true := by
 refine setL_one _ _ _ h ?_
 unfold zeroOf
 repeat' split
 all_goals (intro u hu; simp only [List.mem_cons, List.not_mem_nil, or_false] at hu)
 all_goals first | (rcases hu with rfl | rfl | rfl | rfl | rfl | rfl | rfl | rfl | rfl | rfl | rfl <;> rfl) | (rcases hu with rfl | rfl | rfl <;> rfl) | (subst hu; rfl)
theorem cell_ex {w : World} {g T : Nat} {ds : List Value} (h : w.heap[g]? = some (.cells ds.toArray T (0, 0))) {k : Nat} (hk : k < ds.length) : ∃ u, w.cell? ⟨g, k, none⟩ = some u :=
 ⟨ds[k], st_at h (by rw [List.getElem?_toArray, List.getElem?_eq_getElem hk])⟩
theorem there_row {w : World} {g T : Nat} {ds : List Value} (h : w.heap[g]? = some (.cells ds.toArray T (0, 0))) (o n : Nat) (hk : o + n ≤ ds.length) : w.there g o n := fun j hj => by
 obtain ⟨u, hu⟩ := cell_ex h (k := o + j) (by omega)
 exact ⟨by rw [hu]; rfl, st_free h _⟩
abbrev ZP200 : Array Value := #[.int .i32 0, .int .i32 0, .string ⟨#[]⟩, .int .i64 0, .int .i64 0, .int .i64 0, .int .i64 0, .int .i32 0, .int .i32 0, .int .i32 0, .int .i64 0, .int .i32 0, .int .i32 0, .int .i64 0, .slice none 0 0, .slice none 0 0, .slice none 0 0, .int .i32 0, .int .i64 0, .int .i32 0, .slice none 0 0, .slice none 0 0]
abbrev ZP201 : Array Value := #[.int .i64 0, .int .i64 0, .int .i64 0, .int .i64 0, .int .i32 0, .int .i32 0, .int .i32 0, .int .i64 0, .int .i32 0, .int .i32 0, .int .i64 0]
theorem pwithout_any (l : List Int) (hl : ∀ c ∈ l, 1 ≤ c ∧ c ≤ 8) (hlm : l.length ≤ 8) (A : Nat → Prop) (v : Value) (cs : List Value) (w : World) (h : SlR A w 1 v (l.map codeCells)) (hA : ∀ b, A b → b < w.heap.size) (hc : cs.length = 22) (h1 : ∀ u ∈ cs, u.oneCell' = true) :
  Calls Tryz.prog 70 #[.agg cs.toArray, v] w fun e w' => e = .returned (.agg (wipes l cs).toArray) ∧ Below w.heap.size w w' := by
 obtain ⟨n, hn⟩ : ∃ n, l.length = n := ⟨_, rfl⟩
 obtain ⟨s, q, rfl⟩ := h.len'
 rw [List.length_map, hn] at h ⊢
 rw [hn] at hlm
 have HN := Lib.hid hn
 have hb0 : Below w.heap.size w (w.alloc (.cells cs.toArray 40)) := (Below.refl w.heap.size w).alloc (Nat.le_refl _) _
 have hb1 : Below w.heap.size w ((w.alloc (.cells cs.toArray 40)).alloc (.cells ZP200 40)) := hb0.alloc (by simp) _
 have hz1 : ((w.alloc (.cells cs.toArray 40)).alloc (.cells ZP200 40)).heap[w.heap.size + 1]? = some (.cells ZP200 40 (0, 0)) := by
  have := heap_alloc_new (w.alloc (.cells cs.toArray 40)) (.cells ZP200 40)
  rwa [show (w.alloc (.cells cs.toArray 40)).heap.size = w.heap.size + 1 by simp] at this
 have hz0 : ((w.alloc (.cells cs.toArray 40)).alloc (.cells ZP200 40)).heap[w.heap.size]? = some (.cells cs.toArray 40 (0, 0)) := by
  rw [Below.heap_alloc _ _ _ (by simp)]; exact heap_alloc_new w _
 have HB1 := Lib.hid hb1
 have HZ0 := Lib.hid hz0
 have HZ1 := Lib.hid hz1
 have HC := Lib.hid hc
 have H1 := Lib.hid h1
 have I37 : RowKit.Hid ((Tryz.prog.info? 37).map (·.size) = some (ZP201 : Array Value).size) := Lib.hid (by kernel_rfl)
 have I28 : RowKit.Hid ((Tryz.prog.info? 28).map (·.size) = some (#[.int .i64 0, .int .i32 0, .slice none 0 0] : Array Value).size) := Lib.hid (by kernel_rfl)
 have O37 : RowKit.Hid ((ZP201 : Array Value).all (·.oneCell') = true) := Lib.hid (by simp [Value.oneCell'])
 have O28 : RowKit.Hid ((#[.int .i64 0, .int .i32 0, .slice none 0 0] : Array Value).all (·.oneCell') = true) := Lib.hid (by simp [Value.oneCell'])
 clear hb0 hb1 hz0 hz1 hc h1 hn
 go_enter Tryz.func70, Tryz.ntmps70
 go_wp2
 go_loopw [6, 9] (fun _ i W => ∃ k : Nat, k ≤ n ∧ i = .int .i64 k ∧ RowKit.Hid (∃ ds, W.heap[w.heap.size]? = some (.cells ds.toArray 40 (0, 0)) ∧ ds = wipes (l.take k) cs ∧ ds.length = 22 ∧ ∀ u ∈ ds, u.oneCell' = true) ∧ RowKit.Hid (W.heap[w.heap.size + 1]? = some (.cells ZP200 40 (0, 0))) ∧ RowKit.Hid (Below w.heap.size w W)) (fun _ i _ => n - (intOf i).toNat)
 case atStart => exact ⟨0, Nat.zero_le _, rfl, Lib.hid ⟨cs, HZ0.out, rfl, HC.out, H1.out⟩, HZ1, HB1⟩
 case round =>
  obtain ⟨k, hk, rfl, HD, HZ, HB⟩ := hrel
  clear HZ0 HZ1 HB1
  obtain ⟨ds, hrow, hds, hdl, hd1⟩ := HD.out
  clear HD
  by_cases hlt : k < n
  ·have hkl : k < l.length := by rw [HN.out]; exact hlt
   obtain ⟨c, hx⟩ : ∃ c, l[k]? = some c := ⟨_, List.getElem?_eq_getElem hkl⟩
   have hxl : l[k] = c := (List.getElem?_eq_some_iff.1 hx).2
   have hr : (l.map codeCells)[k]? = some (codeCells c) := by rw [List.getElem?_map, hx]; rfl
   obtain ⟨b1, o1, n1, q1, e1, hb1, r1⟩ := h.row hr
   cases e1
   have r1 := range_below r1 HB.out (hA b1 hb1)
   have p0 := r1 0 (.int .i64 c) rfl
   rw [Nat.add_zero, Nat.mul_one] at p0
   have hcr := hl c (List.mem_of_getElem? hx)
   have hnx : wipe c ds = wipes (l.take (k + 1)) cs := by rw [List.take_succ_eq_append_getElem hkl, hxl, wipes_snoc, ← hds]
   have HROW := Lib.hid hrow
   have HNX : RowKit.Hid (∃ ds', (wr.setCells w.heap.size (zeroOf c).1 (zeroOf c).2).heap[w.heap.size]? = some (.cells ds'.toArray 40 (0, 0)) ∧ ds' = wipes (l.take (k + 1)) cs ∧ ds'.length = 22 ∧ ∀ u ∈ ds', u.oneCell' = true) :=
    Lib.hid ⟨wipe c ds, row_setCells _ _ _ _ _ _ hrow, hnx, by rw [wipe_len, hdl], wipe_one c ds hd1⟩
   have HNZ : RowKit.Hid ((wr.setCells w.heap.size (zeroOf c).1 (zeroOf c).2).heap[w.heap.size + 1]? = some (.cells ZP200 40 (0, 0))) := Lib.hid (by rw [apart_setCells _ _ _ _ _ (by omega)]; exact HZ.out)
   have HNB : RowKit.Hid (Below w.heap.size w (wr.setCells w.heap.size (zeroOf c).1 (zeroOf c).2)) := Lib.hid (HB.out.trans (below_setCells wr w.heap.size _ _))
   have fz : ∀ k, wr.frozen? ⟨w.heap.size, k, none⟩ = false := fun k => st_free hrow k
   obtain ⟨u2, x2⟩ := cell_ex hrow (k := 2) (by omega)
   obtain ⟨u14, x14⟩ := cell_ex hrow (k := 14) (by omega)
   obtain ⟨u15, x15⟩ := cell_ex hrow (k := 15) (by omega)
   obtain ⟨u16, x16⟩ := cell_ex hrow (k := 16) (by omega)
   obtain ⟨u17, x17⟩ := cell_ex hrow (k := 17) (by omega)
   obtain ⟨u21, x21⟩ := cell_ex hrow (k := 21) (by omega)
   have th11 : RowKit.Hid (wr.there w.heap.size 3 (ZP201 : Array Value).size) := Lib.hid (there_row hrow 3 11 (by omega))
   have th3 : RowKit.Hid (wr.there w.heap.size 18 (#[.int .i64 0, .int .i32 0, .slice none 0 0] : Array Value).size) := Lib.hid (there_row hrow 18 3 (by omega))
   clear hrow hds hdl hd1 hr hx hxl r1 hnx
   have hcc : c = 1 ∨ c = 2 ∨ c = 3 ∨ c = 4 ∨ c = 5 ∨ c = 6 ∨ c = 7 ∨ c = 8 := by omega
   clear hcr
   rcases hcc with rfl | rfl | rfl | rfl | rfl | rfl | rfl | rfl
   ·go_wp2
    go_roundw
    case rel => exact ⟨k + 1, by omega, by go_num, HNX, HNZ, HNB⟩
    case measure => simp [intOf]; omega
   ·go_wp2_with (with_reducible refine wpList_store_mid rfl 37 (.tmp 20) (.tmp 19) rfl w.heap.size 3 ZP201 rfl rfl th11.out I37.out O37.out ?_)
    go_roundw
    case rel => exact ⟨k + 1, by omega, by go_num, HNX, HNZ, HNB⟩
    case measure => simp [intOf]; omega
   ·go_wp2
    go_roundw
    case rel => exact ⟨k + 1, by omega, by go_num, HNX, HNZ, HNB⟩
    case measure => simp [intOf]; omega
   ·go_wp2
    go_roundw
    case rel => exact ⟨k + 1, by omega, by go_num, HNX, HNZ, HNB⟩
    case measure => simp [intOf]; omega
   ·go_wp2
    go_roundw
    case rel => exact ⟨k + 1, by omega, by go_num, HNX, HNZ, HNB⟩
    case measure => simp [intOf]; omega
   ·go_wp2
    go_roundw
    case rel => exact ⟨k + 1, by omega, by go_num, HNX, HNZ, HNB⟩
    case measure => simp [intOf]; omega
   ·go_wp2_with (with_reducible refine wpList_store_mid rfl 28 (.tmp 36) (.tmp 35) rfl w.heap.size 18 #[.int .i64 0, .int .i32 0, .slice none 0 0] rfl rfl th3.out I28.out O28.out ?_)
    go_roundw
    case rel => exact ⟨k + 1, by omega, by go_num, HNX, HNZ, HNB⟩
    case measure => simp [intOf]; omega
   ·go_wp2
    go_roundw
    case rel => exact ⟨k + 1, by omega, by go_num, HNX, HNZ, HNB⟩
    case measure => simp [intOf]; omega
  ·obtain rfl : k = n := by omega
   rw [List.take_of_length_le (by rw [HN.out]; exact Nat.le_refl _)] at hds
   subst hds
   have hran : wr.rangeAt w.heap.size 0 (wipes l cs) := by
    have := st_range hrow
    rwa [List.toList_toArray] at this
   have hi : (Tryz.prog.info? 40).map (·.size) = some (wipes l cs).length := by rw [hdl]; kernel_rfl
   have hi4 : (Tryz.prog.info? 40).map (·.size) = some (wipes l cs).toArray.size := by rw [List.size_toArray]; exact hi
   have hold : (ZP200 : Array Value).size = (wipes l cs).toArray.size := by rw [show (wipes l cs).toArray.size = 22 by rw [List.size_toArray, hdl]]; rfl
   have hone := all_oneCell_toArray hd1
   have HI := Lib.hid hi
   have HI4 := Lib.hid hi4
   have HOLD := Lib.hid hold
   have HONE := Lib.hid hone
   have hrow2 := setRow_heap wr (w.heap.size + 1) _ (wipes l cs).toArray 40 (0, 0) HZ.out
   have hbR := below_setRow HB.out (g := w.heap.size + 1) (by omega) (wipes l cs).toArray
   have HR2 := Lib.hid hrow2
   have HBR := Lib.hid hbR
   clear hrow hdl hd1 hi hi4 hold hone hrow2 hbR
   go_wp2_with (first
    | (with_reducible refine wpList_load_mid rfl 40 (.tmp 2) rfl w.heap.size 0 rfl (wipes l cs) _ hran Tryz.underlying40 rfl HI.out ?_)
    | (with_reducible refine wpList_store_row rfl 40 (.tmp 4) (.tmp 41) rfl (w.heap.size + 1) (wipes l cs).toArray rfl rfl 40 _ HZ.out HI4.out HOLD.out HONE.out ?_)
    | fail)
   refine bodyPost_ret (v := .agg (wipes l cs).toArray) (results_cell_row rfl _ _ (w.heap.size + 1) 40 _ (0, 0) _ rfl HR2.out Tryz.underlying40 rfl HI4.out) rfl ?_
   exact ⟨rfl, HBR.out⟩
end Go.Proofs.YtfgjiidbafdndaaGreatDoor
