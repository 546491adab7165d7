/- Contracts: a stream's Push and Waits, the document's Push. -/
import Derived.Test.YtgcglnohpmpnkaaM4
namespace Go.Proofs.Ytgcglnohpmpnkaa
open Go.RowKit

/-- Why a stream is broken behind a piece; what waits behind it. -/
def pe (er : Nat) : Nat := if er = 41 then 0 else er
def pw (l : List UInt8) (a er : Nat) : List UInt8 := if pe er = 0 then l.drop a else []
/-- What a piece brings: the loads, rows of their own from b0 on; what waits lies below b0. -/
def PushPost (g T : Nat) (all : List UInt8) (w : World) (e : Ending) (W : World) : Prop :=
  ∃ (v : Value) (xs : List (Value × List UInt8)) (a er b0 : Nat) (A : Option Addr) (n c : Nat), e = .returned (.tuple #[v, .int .i64 (pe er)]) ∧ Spl all (xs.map (·.2)) a er ∧
    w.heap.size ≤ b0 ∧ b0 ≤ W.heap.size ∧ W.ownsRow b0 22 1 v xs.length (xs.map (·.1)) ∧ RowsOf b0 xs W ∧ BS W A n c (pw all a er) ∧ (∀ b o s, A = some ⟨b, o, s⟩ → w.heap.size ≤ b ∧ b < b0) ∧
    W.heap[g]? = some (.cells #[.slice A n c, .int .i64 (pe er)] T (0, 0)) ∧ Chg (· = g) w W

theorem st_cell0 {w : World} {g T : Nat} {v e : Value} (h : w.heap[g]? = some (.cells #[v, e] T (0, 0))) : w.cell? ⟨g, 0, none⟩ = some v := by rw [cell_of_row _ _ _ _ _ _ h]; rfl
theorem st_cell1 {w : World} {g T : Nat} {v e : Value} (h : w.heap[g]? = some (.cells #[v, e] T (0, 0))) : w.cell? ⟨g, 1, none⟩ = some e := by rw [cell_of_row _ _ _ _ _ _ h]; rfl
theorem st_free {w : World} {g T : Nat} {v e : Value} (h : w.heap[g]? = some (.cells #[v, e] T (0, 0))) (k : Nat) : w.frozen? ⟨g, k, none⟩ = false := by simp [World.frozen?, h]
theorem st_set0 {w : World} {g T : Nat} {v e : Value} (h : w.heap[g]? = some (.cells #[v, e] T (0, 0))) (u : Value) : (w.setCell ⟨g, 0, none⟩ u).heap[g]? = some (.cells #[u, e] T (0, 0)) := by
  simp [World.setCell, Array.getElem?_modify, h]
theorem st_set1 {w : World} {g T : Nat} {v e : Value} (h : w.heap[g]? = some (.cells #[v, e] T (0, 0))) (u : Value) : (w.setCell ⟨g, 1, none⟩ u).heap[g]? = some (.cells #[v, u] T (0, 0)) := by
  simp [World.setCell, Array.getElem?_modify, h]

theorem Spl.er_cases {l : List UInt8} {ls : List (List UInt8)} {a e : Nat} (h : Spl l ls a e) : e = 0 ∨ e = 3 ∨ e = 40 ∨ e = 41 := by
  induction h with
  | nil => exact .inl rfl
  | bad l h he => exact nextE_cases l
  | more l ls a e h hs ih => exact ih

theorem BS.block {w w' : World} {A : Option Addr} {n cap : Nat} {l : List UInt8} (h : BS w A n cap l) (hk : 0 < n → ∀ b o s, A = some ⟨b, o, s⟩ → w'.heap[b]? = w.heap[b]?) : BS w' A n cap l := by
  refine ⟨⟨h.rb.1, h.rb.2.1, fun h0 => ?_⟩, h.le, h.cap63, h.nil⟩
  obtain ⟨b, o, hA, hc⟩ := h.rb.2.2 h0
  refine ⟨b, o, hA, fun k hkn => ?_⟩
  rw [World.cell?_of_block (w := w) (hk h0 b o none hA)]
  exact hc k hkn
theorem own_sub_block {w : World} {base n c : Nat} {e : TypeId} {A : Option Addr} {xs : List Value} (h : w.ownsRow base e 1 (.slice A n c) n xs) (a : Nat) (b : Nat) (o : Nat) (s : Option Nat) (hs : subA A c a = some ⟨b, o, s⟩) : base ≤ b ∧ b < w.heap.size := by
  refine h.lt b ?_
  unfold subA at hs
  split at hs
  · subst hs; rfl
  · cases A with
    | none => cases hs
    | some x => simp only [Option.map_some, Option.some.injEq] at hs; unfold Addr.add at hs; simp only [Value.ownBlock]; split at hs <;> simp_all

theorem push_fin (g T : Nat) (w w2 w3 W : World) (all : List UInt8) (n2 c2 a er : Nat) (A2 : Option Addr) (v3 : Value) (xs : List (Value × List UInt8)) (hgl : g < w.heap.size) (own2 : w2.ownsRow w.heap.size 5 1 (.slice A2 n2 c2) n2 (bl all)) (m2 : BS w2 A2 n2 c2 all)
    (b2 : Chg (· = g) w w2) (own3 : w3.ownsRow w2.heap.size 22 1 v3 xs.length (xs.map (·.1))) (rows3 : RowsOf w2.heap.size xs w3) (sp3 : Spl all (xs.map (·.2)) a er) (b3 : Below w2.heap.size w2 w3) (hW : Chg (· = g) w3 W) (A4 : Option Addr) (n4 c4 : Nat)
    (hq : (A4 = none ∧ n4 = 0 ∧ c4 = 0 ∧ pe er ≠ 0) ∨ (A4 = subA A2 c2 a ∧ n4 = n2 - a ∧ c4 = c2 - a ∧ pe er = 0)) (hst : W.heap[g]? = some (.cells #[.slice A4 n4 c4, .int .i64 (pe er)] T (0, 0))) :
    PushPost g T all w (.returned (.tuple #[v3, .int .i64 (pe er)])) W := by
  have hs2 := b2.size
  have hs3 := b3.size
  have hsW := hW.size
  have hgo : ∀ k, w2.heap.size ≤ k → k < w3.heap.size → W.heap[k]? = w3.heap[k]? := fun k hk hl => hW.block k hl (by omega)
  refine ⟨v3, xs, a, er, w2.heap.size, A4, n4, c4, rfl, sp3, hs2, by omega, own_chg own3 hW (fun k hk => by have := own3.lt k hk; omega), rows3.keep (fun k hk hl _ => hgo k hk hl), ?_, ?_, hst,
    b2.trans ((Chg.of_below b3).trans hW)⟩
  · unfold pw
    rcases hq with ⟨rfl, rfl, rfl, hp⟩ | ⟨rfl, rfl, rfl, hp⟩
    · rw [if_neg hp]; exact BS.nil_ W
    · rw [if_pos hp]
      have hle := sp3.le.1
      rw [m2.rb.1] at hle
      refine (m2.from_ a hle).block fun _ b o s hb => ?_
      have hbb := own_sub_block own2 a b o s hb
      have e2 : W.heap[b]? = w3.heap[b]? := hW.block b (by omega) (by omega)
      have e3 : w3.heap[b]? = w2.heap[b]? := b3.block b (by omega)
      rw [e2, e3]
  · rcases hq with ⟨rfl, rfl, rfl, hp⟩ | ⟨rfl, rfl, rfl, hp⟩
    · intro b o s hb; cases hb
    · exact fun b o s hb => own_sub_block own2 a b o s hb

theorem chg1 (g : Nat) (w : World) (a : Value) : Chg (· = g) w (w.setCell ⟨g, 0, none⟩ a) := Chg.setCell _ _ ⟨g, 0, none⟩ a rfl
theorem chg3 (g : Nat) (w : World) (a b c : Value) : Chg (· = g) w (((w.setCell ⟨g, 0, none⟩ a).setCell ⟨g, 0, none⟩ b).setCell ⟨g, 1, none⟩ c) :=
  (chg1 g w a).trans ((chg1 g _ b).trans (Chg.setCell _ _ ⟨g, 1, none⟩ c rfl))

theorem push_ok (g : Nat) (A B : Option Addr) (n cap m cb : Nat) (l lb : List UInt8) (w : World) (hg : w.heap[g]? = some (.cells #[.slice A n cap, .int .i64 0] 54 (0, 0))) (hA : BS w A n cap l) (hB : BS w B m cb lb) (hn : n + m ≤ 16777216) :
    Calls Try.prog 26 #[.pointer (some ⟨g, 0, none⟩), .slice B m cb] w (PushPost g 54 (l ++ lb) w) := by
  have hg0 := st_cell0 hg
  have hg1 := st_cell1 hg
  have hgl := (Array.getElem?_eq_some_iff.1 hg).1
  have HL := Lib.hid hA.rb.1
  have HB := Lib.hid hB.rb.1
  go_enter Try.func26, Try.ntmps26
  go_wp2_with (first
    | (go_at_call 33; refine (clone_any A n cap l _ hA).mono ?_; rintro e w1 ⟨v1, rfl, own1, b1⟩; obtain ⟨A1, c1, rfl, m1⟩ := own_bs own1 (by omega); have hB1 := hB.below b1)
    | (at_builtin; refine wpList_app sB rfl (.tmp 25) (.tmp 26) rfl w.heap.size _ n _ rfl own1 B m cb _ rfl hB1.rb.rd (fun _ => hB1.nil) (bl_one _) (by unfold maxLen; omega) (by omega) b1.size ?_; intro v2 w2 own2 g2 at2; rw [← bl_append] at own2; obtain ⟨A2, c2, rfl, m2⟩ := own_bs own2 (by omega); clear at2; have g2' : w1.grownBy w2 (Value.slice A1 n c1).ownBlock := g2; clear g2))
  refine (split_any A2 (n + m) c2 _ w2 m2 hn).mono ?_
  rintro e w3 ⟨v3, xs, a, er, rfl, own3, rows3, sp3, b3⟩
  have b2 := below_app b1 g2' own1 (Nat.le_refl _) b1.size
  have b23 := b2.trans (b3.mono b2.size)
  have hg3 : w3.heap[g]? = some (.cells #[.slice A n cap, .int .i64 0] 54 (0, 0)) := (b23.block g hgl).trans hg
  have hd0 := st_cell0 hg3
  have hd1 := st_cell1 hg3
  have hc0 := st_free hg3 0
  have hc1 := st_free hg3 1
  have hle := sp3.le
  have hc2 := m2.le
  rw [List.length_append, HL.out, HB.out] at hle
  have hale := hle.1
  have hs := run_sub_l sB A2 (n + m) c2 (a : Int) a rfl hale
  have er4 := sp3.er_cases
  have mf := m2.from_ a hale
  obtain ⟨A3, hA3⟩ : ∃ A3, A3 = subA A2 c2 a := ⟨_, rfl⟩
  rw [← hA3] at hs mf
  have HA := Lib.hid hA3
  have HM := Lib.hid m2
  clear hA3 m2
  rcases er4 with rfl | rfl | rfl | rfl
  · go_wp2_with fail
    go_ret2
    exact push_fin g 54 w w2 w3 _ _ _ _ a 0 A2 v3 xs hgl own2 HM.out (Chg.of_below b2) own3 rows3 sp3 b3 (chg1 _ _ _) A3 _ _ (.inr ⟨HA.out, rfl, rfl, rfl⟩) (st_set0 hg3 _)
  · go_wp2_with fail
    go_ret2
    exact push_fin g 54 w w2 w3 _ _ _ _ a 3 A2 v3 xs hgl own2 HM.out (Chg.of_below b2) own3 rows3 sp3 b3 (chg3 _ _ _ _ _) none 0 0 (.inl ⟨rfl, rfl, rfl, by decide⟩) (st_set1 (st_set0 (st_set0 hg3 _) _) _)
  · go_wp2_with fail
    go_ret2
    exact push_fin g 54 w w2 w3 _ _ _ _ a 40 A2 v3 xs hgl own2 HM.out (Chg.of_below b2) own3 rows3 sp3 b3 (chg3 _ _ _ _ _) none 0 0 (.inl ⟨rfl, rfl, rfl, by decide⟩) (st_set1 (st_set0 (st_set0 hg3 _) _) _)
  · go_wp2_with fail
    go_ret2
    exact push_fin g 54 w w2 w3 _ _ _ _ a 41 A2 v3 xs hgl own2 HM.out (Chg.of_below b2) own3 rows3 sp3 b3 (chg1 _ _ _) A3 _ _ (.inr ⟨HA.out, rfl, rfl, rfl⟩) (st_set0 hg3 _)

/-- A broken stream answers why, and nothing more. -/
theorem push_broken (g : Nat) (A B : Option Addr) (n cap m cb er : Nat) (w : World) (hg : w.heap[g]? = some (.cells #[.slice A n cap, .int .i64 er] 54 (0, 0))) (he : er ≠ 0) :
    Calls Try.prog 26 #[.pointer (some ⟨g, 0, none⟩), .slice B m cb] w fun e w' => e = .returned (.tuple #[.slice none 0 0, .int .i64 er]) ∧ ∃ k, w' = w.drewN k := by
  have hg1 := st_cell1 hg
  have hne : ((er : Int) != 0) = true := by rw [bne_iff_ne]; omega
  go_enter Try.func26, Try.ntmps26
  go_wp2_with fail
  go_quiet (fail)
  go_wp2_with fail
  go_ret2
  exact ⟨rfl, _, rfl⟩
theorem push_none (w : World) (B : Option Addr) (m cb : Nat) :
    Calls Try.prog 26 #[.pointer none, .slice B m cb] w fun e w' => e = .returned (.tuple #[.slice none 0 0, .int .i64 2]) ∧ w = w' := by
  go_enter Try.func26, Try.ntmps26
  go_wp2_with fail
  go_ret2
  exact ⟨rfl, rfl⟩
theorem waits_none (w : World) : Calls Try.prog 27 #[.pointer none] w fun e w' => e = .returned (.int .i64 0) ∧ w = w' := by
  go_enter Try.func27, Try.ntmps27
  go_wp2_with fail
  go_ret
  exact ⟨rfl, rfl⟩
theorem waits_ok (g : Nat) (A : Option Addr) (n cap : Nat) (er : Value) (w : World) (hg : w.heap[g]? = some (.cells #[.slice A n cap, er] 54 (0, 0))) :
    Calls Try.prog 27 #[.pointer (some ⟨g, 0, none⟩)] w fun e w' => e = .returned (.int .i64 n) ∧ w = w' := by
  have hg0 := st_cell0 hg
  go_enter Try.func27, Try.ntmps27
  go_wp2_with fail
  go_ret
  exact ⟨rfl, rfl⟩
end Go.Proofs.Ytgcglnohpmpnkaa
