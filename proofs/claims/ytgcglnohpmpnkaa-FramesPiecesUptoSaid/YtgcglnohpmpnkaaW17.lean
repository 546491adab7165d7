/- Contracts: a piece pushed, whether the stream is broken or not; rows that are written. -/
import Derived.Test.YtgcglnohpmpnkaaW16
namespace Go.Proofs.Ytgcglnohpmpnkaa
open Go.RowKit

/-- A stream's step: what waits (l), why it is broken (er), the piece; what comes, what waits then, why it is broken then. -/
def StepS (l : List UInt8) (er : Nat) (lb : List UInt8) (ys : List (List UInt8)) (l' : List UInt8) (er' : Nat) : Prop :=
  if er = 0 then ∃ a e0, Spl (l ++ lb) ys a e0 ∧ l' = pw (l ++ lb) a e0 ∧ er' = pe e0 else ys = [] ∧ l' = l ∧ er' = er
theorem StepS.det {l lb l1 l2 : List UInt8} {er e1 e2 : Nat} {y1 y2 : List (List UInt8)} (h1 : StepS l er lb y1 l1 e1) (h2 : StepS l er lb y2 l2 e2) : y1 = y2 ∧ l1 = l2 ∧ e1 = e2 := by
  unfold StepS at h1 h2
  split at h1
  · rename_i h0
    rw [if_pos h0] at h2
    obtain ⟨a, x, s1, rfl, rfl⟩ := h1
    obtain ⟨b, y, s2, rfl, rfl⟩ := h2
    obtain ⟨rfl, rfl, rfl⟩ := s1.det s2
    exact ⟨rfl, rfl, rfl⟩
  · rename_i h0
    rw [if_neg h0] at h2
    obtain ⟨rfl, rfl, rfl⟩ := h1
    obtain ⟨rfl, rfl, rfl⟩ := h2
    exact ⟨rfl, rfl, rfl⟩
theorem StepS.le {l lb l1 : List UInt8} {er e1 : Nat} {y1 : List (List UInt8)} (h : StepS l er lb y1 l1 e1) : l1.length ≤ l.length + lb.length := by
  unfold StepS at h
  split at h
  · obtain ⟨a, x, s1, rfl, rfl⟩ := h
    unfold pw
    split
    · rw [List.length_drop, List.length_append]; omega
    · simp
  · obtain ⟨_, rfl, _⟩ := h; omega

theorem BS.at_lt {w : World} {A : Option Addr} {n cap : Nat} {l : List UInt8} (h : BS w A n cap l) (h0 : 0 < n) {b o : Nat} {s : Option Nat} (hb : A = some ⟨b, o, s⟩) : b < w.heap.size := by
  obtain ⟨b', o', hA', hc⟩ := h.rb.2.2 h0
  rw [hb] at hA'
  injection hA' with hA'
  injection hA' with e1 _ _
  subst e1
  exact World.block_lt_of_cell? w _ (hc 0 h0)

def PushAll (g T : Nat) (A0 : Option Addr) (n0 : Nat) (l : List UInt8) (er : Nat) (lb : List UInt8) (w : World) (e : Ending) (W : World) : Prop :=
  ∃ (v : Value) (xs : List (Value × List UInt8)) (er' b0 : Nat) (A : Option Addr) (n c : Nat) (l' : List UInt8), e = .returned (.tuple #[v, .int .i64 er']) ∧ StepS l er lb (xs.map (·.2)) l' er' ∧
    w.heap.size ≤ b0 ∧ b0 ≤ W.heap.size ∧ W.ownsRow b0 22 1 v xs.length (xs.map (·.1)) ∧ RowsOf b0 xs W ∧ BS W A n c l' ∧ (0 < n → ∀ b o s, A = some ⟨b, o, s⟩ → b < b0 ∧ (w.heap.size ≤ b ∨ A = A0 ∧ n = n0)) ∧
    W.heap[g]? = some (.cells #[.slice A n c, .int .i64 er'] T (0, 0)) ∧ Chg (· = g) w W
theorem PushPost.all {g T : Nat} {A0 : Option Addr} {n0 : Nat} {l lb : List UInt8} {w W : World} {e : Ending} (h : PushPost g T (l ++ lb) w e W) : PushAll g T A0 n0 l 0 lb w e W := by
  obtain ⟨v, xs, a, er, b0, A, n, c, rfl, h1, h2, h3, h4, h5, h6, h9, h7, h8⟩ := h
  exact ⟨v, xs, pe er, b0, A, n, c, _, rfl, by unfold StepS; rw [if_pos rfl]; exact ⟨a, er, h1, rfl, rfl⟩, h2, h3, h4, h5, h6, fun _ b o s hb => ⟨(h9 b o s hb).2, .inl (h9 b o s hb).1⟩, h7, h8⟩
theorem PushAll.broken {g T : Nat} {A : Option Addr} {n cap er : Nat} {l lb : List UInt8} {w : World} (k : Nat) (hg : w.heap[g]? = some (.cells #[.slice A n cap, .int .i64 er] T (0, 0))) (hA : BS w A n cap l) (he : er ≠ 0) :
    PushAll g T A n l er lb w (.returned (.tuple #[.slice none 0 0, .int .i64 er])) (w.drewN k) :=
  ⟨_, [], er, w.heap.size, A, n, cap, l, rfl, by unfold StepS; rw [if_neg he]; exact ⟨rfl, rfl, rfl⟩, Nat.le_refl _, Nat.le_refl _, World.ownsRow_nil _ _ _ _, (fun x hx => by cases hx), hA.drewN k, fun h0 b o s hb => ⟨by obtain ⟨b', o', hA', hc⟩ := hA.rb.2.2 h0; rw [hb] at hA'; injection hA' with hA'; injection hA' with e1 _ _; subst e1; exact World.block_lt_of_cell? w _ (hc 0 h0), .inr ⟨rfl, rfl⟩⟩, hg, Chg.drewN _ _ _⟩
theorem push_all (g : Nat) (A B : Option Addr) (n cap m cb er : Nat) (l lb : List UInt8) (w : World) (hg : w.heap[g]? = some (.cells #[.slice A n cap, .int .i64 er] 54 (0, 0))) (hA : BS w A n cap l) (hB : BS w B m cb lb) (hn : n + m ≤ 16777216) :
    Calls Try.prog 26 #[.pointer (some ⟨g, 0, none⟩), .slice B m cb] w (PushAll g 54 A n l er lb w) := by
  by_cases he : er = 0
  · subst he
    exact (push_ok g A B n cap m cb l lb w hg hA hB hn).mono fun e W h => h.all
  · refine (push_broken g A B n cap m cb er w hg he).mono ?_
    rintro e W ⟨rfl, k, rfl⟩
    exact .broken k hg hA he
theorem pushref_all (g : Nat) (A B : Option Addr) (n cap m cb er : Nat) (l lb : List UInt8) (w : World) (hg : w.heap[g]? = some (.cells #[.slice A n cap, .int .i64 er] 57 (0, 0))) (hA : BS w A n cap l) (hB : BS w B m cb lb) (hn : n + m ≤ 16777216) :
    Calls Try.prog 28 #[.pointer (some ⟨g, 0, none⟩), .slice B m cb] w (PushAll g 57 A n l er lb w) := by
  by_cases he : er = 0
  · subst he
    exact (pushref_ok g A B n cap m cb l lb w hg hA hB hn).mono fun e W h => h.all
  · refine (pushref_broken g A B n cap m cb er w hg he).mono ?_
    rintro e W ⟨rfl, k, rfl⟩
    exact .broken k hg hA he

/-- A byte of a row is written: the rows stand, one of them with other bytes. -/
theorem rows_set {B k : Nat} {ys : List (Value × List UInt8)} {W : World} (h : RowsOf B ys W) (j : Nat) (x : Int) (u : UInt8) (hx : x = u.toNat) : ∃ ys', ys'.map (·.1) = ys.map (·.1) ∧ RowsOf B ys' (W.setCell ⟨k, j, none⟩ (.int .u8 x)) := by
  refine ⟨ys.map fun y => if y.1.ownBlock = some k then (y.1, y.2.set j u) else y, ?_, fun z hz => ?_⟩
  · rw [List.map_map]
    refine List.map_congr_left fun y _ => ?_
    simp only [Function.comp]
    split <;> rfl
  · obtain ⟨y, hy, rfl⟩ := List.mem_map.1 hz
    obtain ⟨h1, h2⟩ := h y hy
    by_cases hk : y.1.ownBlock = some k
    · rw [if_pos hk]
      obtain ⟨y1, y2⟩ := y
      simp only at h1 h2 hk ⊢
      obtain ⟨A, c, rfl, _, _, _, _, hA, _⟩ := ownsRow_form h1
      have := hA k hk
      subst this
      have hs := (set_bytes h1 j x u hx).1
      exact ⟨by rw [List.length_set]; exact hs, by rw [List.length_set]; exact h2⟩
    · rw [if_neg hk]
      exact ⟨own_chg h1 (Chg.setCell (· = k) W ⟨k, j, none⟩ _ rfl) (fun i hi e => hk (by rw [hi, e])), h2⟩
theorem rows_chg {S : Nat → Prop} {B : Nat} {ys : List (Value × List UInt8)} {W W' : World} (h : RowsOf B ys W) (hc : Chg S W W') (hs : ∀ k, S k → k < B) : RowsOf B ys W' :=
  h.keep fun k hk hl _ => hc.block k hl fun q => by have := hs k q; omega
theorem coll_bb2 {W : World} {B N : Nat} {v : Value} {xs : List (Value × List UInt8)} {ls : List (List UInt8)} (hown : W.ownsRow B 22 1 v xs.length (xs.map (·.1))) (hrows : RowsOf B xs W) (hy : xs.map (·.2) = ls) (hN : ls.length = N) :
    ∃ A c, v = .slice A N c ∧ BB W A N c ls := by
  subst hy hN
  obtain ⟨A, c, hv, hb⟩ := coll_bb hown hrows
  rw [List.length_map]
  exact ⟨A, c, hv, hb⟩
theorem rows_at {B : Nat} {ys xs : List (Value × List UInt8)} {W : World} (h : RowsOf B ys W) (hm : ys.map (·.1) = xs.map (·.1)) (i : Nat) (hi : i < xs.length) {Ay : Option Addr} {ny cy : Nat} (hv : xs[i].1 = .slice Ay ny cy) :
    ∃ l, W.ownsRow B 5 1 (.slice Ay ny cy) ny (bl l) := by
  have hlen : ys.length = xs.length := by have := congrArg List.length hm; simpa using this
  have hy := h ys[i] (List.getElem_mem (by omega))
  have he : ys[i].1 = xs[i].1 := by
    have := congrArg (fun l => l[i]?) hm
    simpa [List.getElem?_map, List.getElem?_eq_getElem (show i < ys.length by omega), List.getElem?_eq_getElem hi] using this
  obtain ⟨A, c, hA, _⟩ := ownsRow_form hy.1
  rw [he, hv] at hA
  injection hA with _ e2 _
  have h1 := hy.1
  rw [he, hv, ← e2] at h1
  exact ⟨_, h1⟩
/-- What waits does not lie in a stream's own block. -/
theorem bs_chg {g T : Nat} {A : Option Addr} {n c e : Nat} {l : List UInt8} {v : Value} {W W' : World} (h : BS W A n c l) (hg : W.heap[g]? = some (.cells #[v, .int .i64 e] T (0, 0))) (hv : ∀ x, v ≠ .int .u8 x) (hc : Chg (· = g) W W') : BS W' A n c l := by
  refine h.block fun h0 b o s hb => ?_
  obtain ⟨b', o', hA', hcell⟩ := h.rb.2.2 h0
  rw [hb] at hA'
  injection hA' with hA'
  injection hA' with e1 e2 e3
  subst e1 e2 e3
  have h1 := hcell 0 h0
  refine hc.block b (World.block_lt_of_cell? W _ h1) fun q => ?_
  subst q
  rw [cell_of_row _ _ _ _ _ _ hg, Nat.add_zero] at h1
  match o, h1 with
  | 0, h1 => simp at h1; exact hv _ h1
  | 1, h1 => simp at h1
  | o + 2, h1 => simp at h1
end Go.Proofs.Ytgcglnohpmpnkaa
