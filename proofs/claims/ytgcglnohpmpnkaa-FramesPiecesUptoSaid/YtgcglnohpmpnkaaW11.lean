/- Contracts: the iterator of the frames of some bytes, collected. -/
import Derived.Test.YtgcglnohpmpnkaaW10
import Derived.Test.YtgcglnohpmpnkaaL2
import Derived.Deep.RegionHeld3
import Derived.Deep.Cut
namespace Go.Proofs.Ytgcglnohpmpnkaa
open Go.RowKit Go.Shelf

/-- What a cell that holds a number holds. -/
def numAt (w : World) (b : Nat) : Nat := match w.cell? ⟨b, 0, none⟩ with | some v => (intOf v).toNat | none => 0
/-- What the iterator says of a load that it hands over. -/
def LoadP (N B : Nat) (pre : List (Value × List UInt8)) (x : Value × List UInt8) (W : World) : Prop := W.ownsRow B 5 1 x.1 x.2.length (bl x.2) ∧ x.2.length ≤ 16777216 ∧ 8 * (pre.length + 1) ≤ N

theorem BS.drew {w : World} {A : Option Addr} {n cap : Nat} {l : List UInt8} (h : BS w A n cap l) : BS w.drew A n cap l := h.drewN 1
theorem after_round {B : Nat} {w2 W3 : World} {u : Value} (hk : Below (B + 5) (w2.setCell ⟨B, 0, none⟩ u) W3) {j : Nat} (hj : 0 < j) (h5 : j < 5) : W3.cell? ⟨B + j, 0, none⟩ = w2.cell? ⟨B + j, 0, none⟩ := by
  rw [hk.cell (p := ⟨B + j, 0, none⟩) (by show B + j < B + 5; omega)]
  exact World.cell?_of_block (Below.heap_setCell _ _ _ _ (by show B + j ≠ B; omega))
theorem after_round_f {B : Nat} {w2 W3 : World} {u : Value} (hk : Below (B + 5) (w2.setCell ⟨B, 0, none⟩ u) W3) {j : Nat} (h5 : j < 5) : W3.frozen? ⟨B + j, 0, none⟩ = w2.frozen? ⟨B + j, 0, none⟩ := by
  rw [hk.frozen (p := ⟨B + j, 0, none⟩) (by show B + j < B + 5; omega), World.frozen?_setCell]
set_option maxHeartbeats 2000000 in
theorem each1 (A : Option Addr) (n cap l0 : Nat) (l : List UInt8) (w0 W : World) (h : BS w0 A n cap l) (hb0 : Below w0.heap.size w0 W)
    (k1 : W.cell? ⟨w0.heap.size + 3, 0, none⟩ = some (.pointer (some ⟨w0.heap.size, 0, none⟩))) (k2 : W.cell? ⟨w0.heap.size + 2, 0, none⟩ = some (.slice A n cap)) (k3 : W.cell? ⟨w0.heap.size + 4, 0, none⟩ = some (.pointer (some ⟨w0.heap.size + 1, 0, none⟩)))
    (ka : W.cell? ⟨w0.heap.size, 0, none⟩ = some (.int .i64 0)) (ke : W.cell? ⟨w0.heap.size + 1, 0, none⟩ = some (.int .i64 0)) (fa : W.frozen? ⟨w0.heap.size, 0, none⟩ = false) (fe : W.frozen? ⟨w0.heap.size + 1, 0, none⟩ = false)
    (J Jx : List (Value × List UInt8) → World → Prop) (hJ : Stab (fun k => k = w0.heap.size ∨ k = w0.heap.size + 1) J)
    (hY : ∀ pre x W1, J pre W1 → LoadP n W.heap.size pre x W1 → YieldAt Fence.wide 0 Try.prog l0 #[x.1] W1 fun e W' =>
      (e = .returned (.bool true) ∧ J (pre ++ [x]) W' ∧ Below (w0.heap.size + 5) W1 W') ∨ (e = .returned (.bool false) ∧ Jx (pre ++ [x]) W')) (hJ0 : J [] W) :
    Calls Try.prog 39 #[.func (.yield l0) #[] #[], .pointer (some ⟨w0.heap.size + 3, 0, none⟩), .pointer (some ⟨w0.heap.size + 2, 0, none⟩), .pointer (some ⟨w0.heap.size + 4, 0, none⟩)] W fun e W' =>
      (∃ v, e = .returned v) ∧ ((∃ xs, (∃ a e, Spl l (xs.map (·.2)) a e ∧ W'.cell? ⟨w0.heap.size, 0, none⟩ = some (.int .i64 a) ∧ W'.cell? ⟨w0.heap.size + 1, 0, none⟩ = some (.int .i64 e)) ∧ J xs W') ∨ (∃ pre, True ∧ Jx pre W')) := by
  have hl := Lib.hid h.rb.1
  have hn := h.rb.2.1
  have hcap := h.le
  have hcap63 := h.cap63
  unfold maxLen at hcap63
  have HJ := Lib.hid hJ
  have HY := Lib.hid hY
  clear hJ hY
  go_enter Try.func39, Try.ntmps39
  go_wp2
  go_loopw [5] (fun _ wr => ∃ (xs : List (Value × List UInt8)) (a : Nat), SplTo l (xs.map (·.2)) a ∧ J xs wr ∧ Below w0.heap.size w0 wr ∧ W.heap.size ≤ wr.heap.size ∧
      wr.cell? ⟨w0.heap.size + 3, 0, none⟩ = some (.pointer (some ⟨w0.heap.size, 0, none⟩)) ∧ wr.cell? ⟨w0.heap.size + 2, 0, none⟩ = some (.slice A n cap) ∧ wr.cell? ⟨w0.heap.size + 4, 0, none⟩ = some (.pointer (some ⟨w0.heap.size + 1, 0, none⟩)) ∧
      wr.cell? ⟨w0.heap.size, 0, none⟩ = some (.int .i64 a) ∧ wr.cell? ⟨w0.heap.size + 1, 0, none⟩ = some (.int .i64 0) ∧ wr.frozen? ⟨w0.heap.size, 0, none⟩ = false ∧ wr.frozen? ⟨w0.heap.size + 1, 0, none⟩ = false)
    (fun _ wr => n - numAt wr w0.heap.size)
  case atStart => exact ⟨[], 0, SplTo.start l, hJ0, hb0, Nat.le_refl _, k1, k2, k3, ka, ke, fa, fe⟩
  case round =>
    obtain ⟨xs, a, hS, hj, hbel, hsz, c1, c2, c3, ca, ce, fa', fe'⟩ := hrel
    have HS := Lib.hid hS
    have HJJ := Lib.hid hj
    clear k1 k2 k3 ka ke fa fe hJ0 hb0 hS hj
    by_cases hlt : a < n
    · have hle : (a : Int) ≤ n := by omega
      have hd := (h.below hbel).from_ a (by omega)
      have hs := run_sub_l sB A n cap (a : Int) a rfl (by omega)
      generalize subA A cap a = Aa at *
      by_cases hE : nextE (l.drop a) = 0
      · go_wp2
        go_quiet (fail)
        go_wp2
        have q1 := fun (w2 : World) (hb2 : Below wr.heap.size wr w2) => (hb2.cell (World.block_lt_of_cell? wr _ c1)).trans c1
        have q2 := fun (w2 : World) (hb2 : Below wr.heap.size wr w2) => (hb2.cell (World.block_lt_of_cell? wr _ c2)).trans c2
        have q3 := fun (w2 : World) (hb2 : Below wr.heap.size wr w2) => (hb2.cell (World.block_lt_of_cell? wr _ ca)).trans ca
        have Q1 := Lib.hid q1
        have Q2 := Lib.hid q2
        have Q3 := Lib.hid q3
        have q4 := fun (w2 : World) (hb2 : Below wr.heap.size wr w2) => (hb2.cell (World.block_lt_of_cell? wr _ c3)).trans c3
        have q5 := fun (w2 : World) (hb2 : Below wr.heap.size wr w2) => (hb2.cell (World.block_lt_of_cell? wr _ ce)).trans ce
        have q6 := fun (w2 : World) (hb2 : Below wr.heap.size wr w2) => (hb2.frozen (World.block_lt_of_cell? wr _ ce)).trans fe'
        have Q4 := Lib.hid q4
        have Q5 := Lib.hid q5
        have Q6 := Lib.hid q6
        clear q1 q2 q3 q4 q5 q6
        go_region_held3 (fun w' => w'.cell? ⟨w0.heap.size + 3, 0, none⟩ = some (.pointer (some ⟨w0.heap.size, 0, none⟩)) ∧ w'.cell? ⟨w0.heap.size + 2, 0, none⟩ = some (.slice A n cap) ∧ w'.cell? ⟨w0.heap.size, 0, none⟩ = some (.int .i64 a))
          (first | go_keep)
          ((go_at_call 19; refine (next_good Aa (n - a) (cap - a) _ _ ((hd.drewN nq).drew) hE).mono ?_; rintro e w2 ⟨v, rfl, hown, hb2⟩; have hb2' := (below_drewN (Below.refl wr.heap.size wr) nq).drew.trans hb2; have g1 := Q1.out _ hb2'; have g2 := Q2.out _ hb2'; have g3 := Q3.out _ hb2'))
        have hk := nextE_ok hE
        have HL := Lib.hid (nextL_length hE)
        have HT := Lib.hid (HS.out.step hE)
        rw [List.length_drop, hl.out] at hk
        have hm1 : num4 (l.drop a) + 8 ≤ n - a := hk.2.2.1
        have hm2 := hk.2.1
        have fb : w2.frozen? ⟨w0.heap.size, 0, none⟩ = false := (hb2'.frozen (World.block_lt_of_cell? wr _ ca)).trans fa'
        clear hk
        generalize nextL (l.drop a) = ld at *
        generalize num4 (l.drop a) = m at *
        go_upto_region 5 with (fail)
        have hBlt := World.block_lt_of_cell? wr _ ca
        have hChg : Chg (fun k => k = w0.heap.size ∨ k = w0.heap.size + 1) wr (w2.setCell ⟨w0.heap.size, 0, none⟩ (.int .i64 (↑a + (↑m + 8)))) := (Chg.of_below hb2').trans (Chg.setCell _ _ _ _ (.inl rfl))
        have hown' : (w2.setCell ⟨w0.heap.size, 0, none⟩ (.int .i64 (↑a + (↑m + 8)))).ownsRow W.heap.size 5 1 v ld.length (bl ld) := by
          rw [HL.out]
          have h1 : w2.ownsRow (wr.heap.size) 5 1 v m (bl ld) := hown
          exact own_mono (ownsRow_setCell_below h1 (a := ⟨w0.heap.size, 0, none⟩) hBlt _) hsz
        obtain ⟨fn, tmps, assign, body, hy, hR⟩ := HY.out xs (v, ld) _ (HJ.out _ _ _ HJJ.out hChg) ⟨hown', by rw [HL.out]; exact hm2, by have := HS.out.2.1; simp at this; omega⟩
        dsimp only at hy
        refine (wpIn_wide (n := 1)).1 ?_
        gi_wp2
        refine hR.mono ?_
        rintro e W3 (⟨rfl, hJ3, hk3⟩ | ⟨rfl, hJx3⟩)
        · gi_wp2
          have R1 := (after_round hk3 (j := 3) (by omega) (by omega)).trans g1
          have R2 := (after_round hk3 (j := 2) (by omega) (by omega)).trans g2
          have R3 := (after_round hk3 (j := 4) (by omega) (by omega)).trans (Q4.out _ hb2')
          have R4 := (after_round hk3 (j := 1) (by omega) (by omega)).trans (Q5.out _ hb2')
          have R5 : W3.cell? ⟨w0.heap.size, 0, none⟩ = some (.int .i64 (↑a + (↑m + 8))) := (hk3.cell (p := ⟨w0.heap.size, 0, none⟩) (by show w0.heap.size < w0.heap.size + 5; omega)).trans (World.cell?_setCell_same' _ _ _ (by rw [g3]; rfl))
          have R6 := (after_round_f hk3 (j := 0) (by omega)).trans fb
          have R7 := (after_round_f hk3 (j := 1) (by omega)).trans (Q6.out _ hb2')
          have hb3 : Below w0.heap.size w0 W3 := ((hbel.trans (hb2'.mono hbel.size)).setCell (p := ⟨w0.heap.size, 0, none⟩) (Nat.le_refl _) _).trans (hk3.mono (by omega))
          have hs3 : W.heap.size ≤ W3.heap.size := Nat.le_trans hsz (Nat.le_trans hChg.size hk3.size)
          have RR := Lib.hid (And.intro R1 (And.intro R2 (And.intro R3 (And.intro R5 (And.intro R4 (And.intro R6 R7))))))
          have HB := Lib.hid (And.intro hb3 hs3)
          have HJ3 := Lib.hid hJ3
          have M1 : numAt W3 w0.heap.size = a + (m + 8) := by unfold numAt; rw [R5]; simp [intOf]; omega
          have M2 : numAt wr w0.heap.size = a := by unfold numAt; rw [ca]; simp [intOf]
          have MM := Lib.hid (And.intro M1 M2)
          clear R1 R2 R3 R4 R5 R6 R7 hb3 hs3 hJ3 M1 M2 hown' hy hR hChg hk3
          go_wp2
          go_roundw
          case rel =>
            obtain ⟨r1, r2, r3, r5, r4, r6, r7⟩ := RR.out
            exact ⟨xs ++ [(v, ld)], a + (m + 8), by rw [List.map_append]; exact HT.out, HJ3.out, HB.out.1, HB.out.2, r1, r2, r3, by rw [r5]; exact congrArg some (by go_num), r4, r6, r7⟩
          case measure => rw [MM.out.1, MM.out.2]; omega
        · gi_wp2
          have HX := Lib.hid hJx3
          clear hJx3
          go_wp2
          refine bodyPost_ret (results_none rfl _ _ _) rfl ?_
          exact ⟨⟨_, rfl⟩, .inr ⟨_, trivial, HX.out⟩⟩
      · go_wp2
        go_quiet (fail)
        go_wp2
        have q1 := fun (w2 : World) (hb2 : Below wr.heap.size wr w2) => (hb2.cell (World.block_lt_of_cell? wr _ c1)).trans c1
        have q2 := fun (w2 : World) (hb2 : Below wr.heap.size wr w2) => (hb2.cell (World.block_lt_of_cell? wr _ c2)).trans c2
        have q3 := fun (w2 : World) (hb2 : Below wr.heap.size wr w2) => (hb2.cell (World.block_lt_of_cell? wr _ ca)).trans ca
        have Q1 := Lib.hid q1
        have Q2 := Lib.hid q2
        have Q3 := Lib.hid q3
        have q4 := fun (w2 : World) (hb2 : Below wr.heap.size wr w2) => (hb2.cell (World.block_lt_of_cell? wr _ c3)).trans c3
        have q5 := fun (w2 : World) (hb2 : Below wr.heap.size wr w2) => (hb2.cell (World.block_lt_of_cell? wr _ ce)).trans ce
        have q6 := fun (w2 : World) (hb2 : Below wr.heap.size wr w2) => (hb2.frozen (World.block_lt_of_cell? wr _ ce)).trans fe'
        have Q4 := Lib.hid q4
        have Q5 := Lib.hid q5
        have Q6 := Lib.hid q6
        clear q1 q2 q3 q4 q5 q6
        go_region_held3 (fun w' => w'.cell? ⟨w0.heap.size + 3, 0, none⟩ = some (.pointer (some ⟨w0.heap.size, 0, none⟩)) ∧ w'.cell? ⟨w0.heap.size + 2, 0, none⟩ = some (.slice A n cap) ∧ w'.cell? ⟨w0.heap.size, 0, none⟩ = some (.int .i64 a) ∧ w'.cell? ⟨w0.heap.size + 4, 0, none⟩ = some (.pointer (some ⟨w0.heap.size + 1, 0, none⟩)))
          (first | go_keep)
          ((go_at_call 19; refine (next_fail Aa (n - a) (cap - a) _ _ ((hd.drewN nq).drew) hE).mono ?_; rintro e w2 ⟨rfl, hb2⟩; have hb2' := (below_drewN (Below.refl wr.heap.size wr) nq).drew.trans hb2; have g1 := Q1.out _ hb2'; have g2 := Q2.out _ hb2'; have g3 := Q3.out _ hb2'; have g4 := Q4.out _ hb2'; have g5 := Q5.out _ hb2'; have g6 := Q6.out _ hb2'))
        have hne : ((nextE (l.drop a) : Int) != 0) = true := by rw [bne_iff_ne]; omega
        have HT := Lib.hid (HS.out.stop (by rw [hl.out]; exact hlt) hE)
        have hcs := nextE_cases (l.drop a)
        generalize nextE (l.drop a) = ee at *
        have hChg : Chg (fun k => k = w0.heap.size ∨ k = w0.heap.size + 1) wr (w2.setCell ⟨w0.heap.size + 1, 0, none⟩ (.int .i64 ee)) := (Chg.of_below hb2').trans (Chg.setCell _ _ _ _ (.inr rfl))
        have HC := Lib.hid hChg
        clear hChg hcs
        go_wp2
        refine bodyPost_ret (results_none rfl _ _ _) rfl ?_
        refine ⟨⟨_, rfl⟩, .inl ⟨xs, ⟨a, ee, HT.out, ?_, World.cell?_setCell_same' _ _ _ (by rw [g5]; rfl)⟩, HJ.out _ _ _ HJJ.out HC.out⟩⟩
        rw [World.cell?_of_block (Below.heap_setCell _ _ _ _ (by show w0.heap.size ≠ w0.heap.size + 1; omega))]
        exact g3
    · obtain rfl : a = n := by have := HS.out.1; rw [hl.out] at this; omega
      have hd : ¬ ((a : Int) < a) := by omega
      go_wp2
      go_quiet (fail)
      go_wp2
      go_end0
      exact ⟨⟨_, rfl⟩, .inl ⟨xs, ⟨a, 0, HS.out.done (by rw [hl.out]; omega), ca, ce⟩, HJ.out _ _ _ HJJ.out (Chg.drewN _ _ _)⟩⟩
end Go.Proofs.Ytgcglnohpmpnkaa
