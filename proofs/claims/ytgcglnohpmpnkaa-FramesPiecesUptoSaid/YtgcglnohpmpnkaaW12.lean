/- Contracts: what the iterator hands over, collected; Split. -/
import Derived.Test.YtgcglnohpmpnkaaW11
namespace Go.Proofs.Ytgcglnohpmpnkaa
open Go.RowKit Go.Shelf
attribute [local go_sem] Oper.semAt_some

theorem own_types {w : World} {b b' n n' : Nat} {e e' : TypeId} {v v' : Value} {xs xs' : List Value} (h : w.ownsRow b e 1 v n xs) (h' : w.ownsRow b' e' 1 v' n' xs') (hne : e ≠ e') (k : Nat) (hk : v.ownBlock = some k) : v'.ownBlock ≠ some k := by
  intro hk'
  rcases h.2 with ⟨rfl, _⟩ | ⟨g, cap, cur, rfl, _, hg, _⟩
  · simp [Value.ownBlock] at hk
  · rcases h'.2 with ⟨rfl, _⟩ | ⟨g', cap', cur', rfl, _, hg', _⟩
    · simp [Value.ownBlock] at hk'
    · simp only [Value.ownBlock, Option.some.injEq] at hk hk'
      subst hk
      subst hk'
      rw [hg] at hg'
      injection hg' with h1
      injection h1 with _ h2
      exact hne h2
theorem own_one {w : World} {b n : Nat} {e : TypeId} {v : Value} {xs : List Value} (h : w.ownsRow b e 1 v n xs) : v.oneCell' = true := by
  rcases h.2 with ⟨rfl, _⟩ | ⟨g, cap, cur, rfl, _⟩ <;> rfl
/-- A row under changes elsewhere. -/
theorem own_chg {S : Nat → Prop} {w w' : World} {b n : Nat} {e : TypeId} {v : Value} {xs : List Value} (h : w.ownsRow b e 1 v n xs) (hc : Chg S w w') (hs : ∀ k, v.ownBlock = some k → ¬ S k) : w'.ownsRow b e 1 v n xs := by
  refine ⟨h.1, ?_⟩
  rcases h.2 with h2 | ⟨g, cap, cur, hv, hb, hg, r⟩
  · exact .inl h2
  · exact .inr ⟨g, cap, cur, hv, hb, (hc.block g (Array.getElem?_eq_some_iff.1 hg).1 (hs g (by rw [hv]; rfl))).trans hg, r⟩

/-- The consumer's state: its box, what it has collected. -/
def Coll (bx : Nat) (pre : List (Value × List UInt8)) (W : World) : Prop :=
  ∃ v, W.heap[bx]? = some (.cells #[v] 40 (0, 0)) ∧ W.ownsRow (bx + 3) 22 1 v pre.length (pre.map (·.1)) ∧ ∀ x ∈ pre, W.ownsRow (bx + 3) 5 1 x.1 x.2.length (bl x.2) ∧ x.2.length ≤ 16777216
theorem Coll.chg {S : Nat → Prop} {bx : Nat} {pre : List (Value × List UInt8)} {W W' : World} (h : Coll bx pre W) (hc : Chg S W W') (hS : ∀ k, S k → k ≠ bx ∧ k < bx + 3) : Coll bx pre W' := by
  obtain ⟨v, h1, h2, h3⟩ := h
  refine ⟨v, (hc.block bx (Array.getElem?_eq_some_iff.1 h1).1 (fun q => (hS _ q).1 rfl)).trans h1, own_chg h2 hc (fun k hk q => ?_), fun x hx => ⟨own_chg (h3 x hx).1 hc (fun k hk q => ?_), (h3 x hx).2⟩⟩
  · have := h2.lt k hk; have := (hS _ q).2; omega
  · have := (h3 x hx).1.lt k hk; have := (hS _ q).2; omega

theorem coll_step {bx : Nat} {pre : List (Value × List UInt8)} {x : Value × List UInt8} {W w2 : World} {v v' : Value} (h1 : W.heap[bx]? = some (.cells #[v] 40 (0, 0))) (h2 : W.ownsRow (bx + 3) 22 1 v pre.length (pre.map (·.1)))
    (h3 : ∀ x ∈ pre, W.ownsRow (bx + 3) 5 1 x.1 x.2.length (bl x.2) ∧ x.2.length ≤ 16777216) {N : Nat} (hx : LoadP N (bx + 3) pre x W) (hsz : bx + 3 ≤ W.heap.size)
    (hg : (W.alloc (.cells #[x.1] 22)).grownBy w2 v.ownBlock) (h' : w2.ownsRow (bx + 3) 22 1 v' (pre.length + 1) (pre.map (·.1) ++ [x.1])) :
    Coll bx (pre ++ [x]) (w2.setCell ⟨bx, 0, none⟩ v') ∧ Below bx W (w2.setCell ⟨bx, 0, none⟩ v') ∧ (w2.setCell ⟨bx, 0, none⟩ v').heap[bx + 2]? = W.heap[bx + 2]? ∧ (w2.setCell ⟨bx, 0, none⟩ v').heap[bx + 1]? = W.heap[bx + 1]? := by
  have hold : ∀ k, k < W.heap.size → some k ≠ v.ownBlock → w2.heap[k]? = W.heap[k]? := fun k hk hn => (hg.block k (by simp; omega) hn).trans (Below.heap_alloc W _ k hk)
  have hnb : ∀ k, k < bx + 3 → some k ≠ v.ownBlock := fun k hk q => by have := h2.lt k q.symm; omega
  have hset : ∀ k, k ≠ bx → (w2.setCell ⟨bx, 0, none⟩ v').heap[k]? = w2.heap[k]? := fun k hk => Below.heap_setCell _ _ _ _ hk
  have hbx : (w2.setCell ⟨bx, 0, none⟩ v').heap[bx]? = some (.cells #[v'] 40 (0, 0)) := by
    have := (hold bx (by omega) (hnb bx (by omega))).trans h1
    simp [World.setCell, Array.getElem?_modify, this]
  have hrow : ∀ y : Value × List UInt8, W.ownsRow (bx + 3) 5 1 y.1 y.2.length (bl y.2) → (w2.setCell ⟨bx, 0, none⟩ v').ownsRow (bx + 3) 5 1 y.1 y.2.length (bl y.2) := by
    intro y hy
    refine ⟨hy.1, ?_⟩
    rcases hy.2 with q | ⟨g, cap, cur, hv, hb, hh, r⟩
    · exact .inl q
    · refine .inr ⟨g, cap, cur, hv, hb, ?_, r⟩
      have hgl := (Array.getElem?_eq_some_iff.1 hh).1
      have hne : some g ≠ v.ownBlock := fun q => own_types h2 hy (by decide) g q.symm (by rw [hv]; rfl)
      exact (hset g (by omega)).trans ((hold g hgl hne).trans hh)
  refine ⟨⟨v', hbx, ?_, ?_⟩, ?_, ?_, ?_⟩
  · have := ownsRow_setCell_below h' (a := ⟨bx, 0, none⟩) (by show bx < bx + 3; omega) v'
    simpa using this
  · intro y hy
    rcases List.mem_append.1 hy with hy | hy
    · exact ⟨hrow y (h3 y hy).1, (h3 y hy).2⟩
    · obtain rfl : y = x := by simpa using hy
      exact ⟨hrow y hx.1, hx.2.1⟩
  · refine ⟨hg.os, hg.tape, hg.output, ?_, fun k hk => (hset k (by omega)).trans (hold k (by omega) (hnb k (by omega)))⟩
    have := hg.size
    simp [World.setCell] at *; omega
  · exact (hset _ (by omega)).trans (hold _ (by omega) (hnb _ (by omega)))
  · exact (hset _ (by omega)).trans (hold _ (by omega) (hnb _ (by omega)))

/-- What is collected, and where the iterator stopped. -/
def CollPost (b : Nat) (l : List UInt8) (w0 : World) (e : Ending) (W' : World) : Prop :=
  ∃ (v : Value) (xs : List (Value × List UInt8)) (a er : Nat), e = .returned v ∧ W'.ownsRow b 22 1 v xs.length (xs.map (·.1)) ∧ (∀ x ∈ xs, W'.ownsRow b 5 1 x.1 x.2.length (bl x.2) ∧ x.2.length ≤ 16777216) ∧
        Spl l (xs.map (·.2)) a er ∧ W'.cell? ⟨w0.heap.size, 0, none⟩ = some (.int .i64 a) ∧ W'.cell? ⟨w0.heap.size + 1, 0, none⟩ = some (.int .i64 er) ∧ Below w0.heap.size w0 W'

set_option maxHeartbeats 2000000 in
theorem appendSeq_each (A : Option Addr) (n cap : Nat) (l : List UInt8) (w0 w : World) (h : BS w0 A n cap l) (hb0 : Below w0.heap.size w0 w) (hw : w0.heap.size + 5 ≤ w.heap.size) (hn : n ≤ 16777216)
    (k1 : w.cell? ⟨w0.heap.size + 3, 0, none⟩ = some (.pointer (some ⟨w0.heap.size, 0, none⟩))) (k2 : w.cell? ⟨w0.heap.size + 2, 0, none⟩ = some (.slice A n cap)) (k3 : w.cell? ⟨w0.heap.size + 4, 0, none⟩ = some (.pointer (some ⟨w0.heap.size + 1, 0, none⟩)))
    (ka : w.cell? ⟨w0.heap.size, 0, none⟩ = some (.int .i64 0)) (ke : w.cell? ⟨w0.heap.size + 1, 0, none⟩ = some (.int .i64 0)) (fa : w.frozen? ⟨w0.heap.size, 0, none⟩ = false) (fe : w.frozen? ⟨w0.heap.size + 1, 0, none⟩ = false) :
    Calls Try.prog 38 #[.slice none 0 0, .func (.func 39) #[] #[.pointer (some ⟨w0.heap.size + 3, 0, none⟩), .pointer (some ⟨w0.heap.size + 2, 0, none⟩), .pointer (some ⟨w0.heap.size + 4, 0, none⟩)]] w (CollPost w.heap.size l w0) := by
  refine (callsIn_wide (n := 1)).1 (callsIn_of_wp_marks Try.func38 rfl trivial ?_ rfl)
  simp only [Try.ntmps38, List.size_toArray, List.length_cons, List.length_nil, Nat.reduceAdd, Nat.reduceSub, Array.replicate_succ, Array.replicate_zero, List.push_toArray, List.append_toArray, List.nil_append, List.cons_append]
  refine wpIn_wide.2 ?_
  go_wp2
  have hz : (w.alloc (.cells #[.slice none 0 0] 40)).heap.size = w.heap.size + 1 := World.size_alloc _ _
  have hba : Below w.heap.size w (w.alloc (.cells #[.slice none 0 0] 40)) := (Below.refl _ w).alloc (Nat.le_refl _) _
  have hseq : IterC Try.prog 39 #[.pointer (some ⟨w0.heap.size + 3, 0, none⟩), .pointer (some ⟨w0.heap.size + 2, 0, none⟩), .pointer (some ⟨w0.heap.size + 4, 0, none⟩)] (fun x : Value × List UInt8 => #[x.1])
      (fun k => k = w0.heap.size ∨ k = w0.heap.size + 1) (Below (w0.heap.size + 5)) (LoadP n)
      (fun xs W' => ∃ a e : Nat, Spl l (xs.map (·.2)) a e ∧ W'.cell? ⟨w0.heap.size, 0, none⟩ = some (.int .i64 a) ∧ W'.cell? ⟨w0.heap.size + 1, 0, none⟩ = some (.int .i64 e)) (fun _ _ => True) (w.alloc (.cells #[.slice none 0 0] 40)) := by
    intro l0 J Jx W hbW hJ hJx hY h0
    have hb1 : Below w.heap.size w W := hba.trans (hbW.mono (by simp))
    have lt : ∀ b v, w.cell? ⟨b, 0, none⟩ = some v → W.cell? ⟨b, 0, none⟩ = some v := fun b v q => (hb1.cell (World.block_lt_of_cell? w _ q)).trans q
    exact each1 A n cap l0 l w0 W h (hb0.trans (hb1.mono (by omega))) (lt _ _ k1) (lt _ _ k2) (lt _ _ k3) (lt _ _ ka) (lt _ _ ke)
      ((hb1.frozen (World.block_lt_of_cell? w _ ka)).trans fa) ((hb1.frozen (World.block_lt_of_cell? w _ ke)).trans fe) J Jx hJ hY h0
  refine wp_rf (gf := 39) rfl (enters_of Try.func39 (by kernel_rfl) rfl) hseq ?hS kept_t ?hKb (fun _ => rfl) (fun pre W => Coll w.heap.size pre W ∧ Below w0.heap.size w0 W) (fun _ _ _ => False) ?hI (fun _ _ _ _ h _ => h) ?h0
    (fun x => { tmps := #[.slice none 0 0,
        .func (.func 39) #[] #[.pointer (some ⟨w0.heap.size + 3, 0, none⟩), .pointer (some ⟨w0.heap.size + 2, 0, none⟩), .pointer (some ⟨w0.heap.size + 4, 0, none⟩)],
        .pointer (some ⟨w.heap.size, 0, none⟩), undef, .slice none 0 0, x.1,
        .func (.func 39) #[] #[.pointer (some ⟨w0.heap.size + 3, 0, none⟩), .pointer (some ⟨w0.heap.size + 2, 0, none⟩), .pointer (some ⟨w0.heap.size + 4, 0, none⟩)], x.1, undef, undef, undef, undef, undef], defers := [] })
    ?hPx ?hassign ?hbody ?hdone (fun _ _ _ _ _ _ h _ => h.elim)
  case hS => rintro k (rfl | rfl) <;> rw [hz] <;> omega
  case hKb => intro W k o hk; exact kept_b (by rw [hz]; omega) W k o hk
  case hI =>
    rintro pre W W' ⟨hc, hb⟩ hg
    refine ⟨hc.chg hg ?_, hb.trans (hg.below hb.size ?_)⟩
    · rintro k ((rfl | rfl) | rfl | rfl) <;> rw [hz] at * <;> omega
    · rintro k ((rfl | rfl) | rfl | rfl) <;> rw [hz] at * <;> omega
  case h0 => exact ⟨⟨_, by simpa using heap_alloc_new w _, World.ownsRow_nil _ _ _ _, fun x hx => by cases hx⟩, hb0.trans (hba.mono hb0.size)⟩
  case hPx =>
    rintro x pre W W' ⟨hx, hx2⟩ hg
    refine ⟨own_chg hx hg (fun k hk q => ?_), hx2⟩
    have := hx.lt k hk
    rw [hz] at *
    omega
  case hassign =>
    intro x W K hK
    gi_wp2
    exact hK
  case hbody =>
    rintro pre ⟨xv, xl⟩ W ⟨⟨v, h1, h2, h3⟩, hb⟩ hx hsz
    rw [hz] at hx hsz ⊢
    obtain ⟨Ax, cx, hxe, _⟩ := ownsRow_form hx.1
    dsimp only at hxe
    subst hxe
    obtain ⟨Av, cv, rfl, _⟩ := ownsRow_form h2
    have hcell := cell_of_one h1
    have hfree := free_of_one h1
    obtain ⟨i, z, hi, hzz, hs, hby, hzs⟩ := sBB.ex
    have hx3 := hx.2.2
    have hrd := cell_one_new W (.slice Ax xl.length cx) 22
    gi_wp2_with (gi_at_builtin; refine wpListIn_append_own _ rfl (.tmp 8) (.tmp 10) 40 rfl (w.heap.size + 3) 22 i z 1 24 Try.underlying40 hi hzz hs hby hzs (by omega) _ pre.length _ rfl (h2.alloc _) ⟨W.heap.size, 0, none⟩ 1 1 [.slice Ax xl.length cx] rfl rfl hrd (by intro u hu; simp at hu; subst hu; rfl) (by unfold maxLen; omega) (by omega) (by simp; omega) ?_; intro v' w2 hown' hgrow _; obtain ⟨Av', cv', rfl, _⟩ := ownsRow_form hown'; obtain ⟨g', rfl, hg1', hg2'⟩ := own_addr hown' (by omega); have hc2 : w2.cell? ⟨w.heap.size, 0, none⟩ = some (.slice Av pre.length cv) := (World.cell?_of_block ((hgrow.block w.heap.size (by simp; omega) (fun q => by have := h2.lt _ q.symm; omega)).trans (Below.heap_alloc W _ w.heap.size (by omega)))).trans hcell; have hf2 : w2.frozen? ⟨w.heap.size, 0, none⟩ = false := (World.frozen?_of_block ((hgrow.block w.heap.size (by simp; omega) (fun q => by have := h2.lt _ q.symm; omega)).trans (Below.heap_alloc W _ w.heap.size (by omega)))).trans hfree)
    obtain ⟨s1, s2, s3, s4⟩ := coll_step h1 h2 h3 hx (by omega) hgrow hown'
    exact ⟨⟨s3, s4⟩, s2.mono (by omega), s1, hb.trans (s2.mono (by omega))⟩
  case hdone =>
    rintro xs W W' ⟨a, er, hsp, ha, he⟩ hg ⟨⟨v, h1, h2, h3⟩, hb⟩ hD
    rw [hz] at hg hD ⊢
    have hcell := cell_of_one h1
    have hlt := World.block_lt_of_cell? W _ ha
    have hlt2 := World.block_lt_of_cell? W _ he
    have ha' : W'.cell? ⟨w0.heap.size, 0, none⟩ = some (.int .i64 a) := (World.cell?_of_block (hg.block w0.heap.size hlt (by omega))).trans ha
    have he' : W'.cell? ⟨w0.heap.size + 1, 0, none⟩ = some (.int .i64 er) := (World.cell?_of_block (hg.block (w0.heap.size + 1) hlt2 (by omega))).trans he
    have HR := Lib.hid (And.intro h2 (And.intro h3 (And.intro hsp (And.intro ha' (And.intro he' hb)))))
    obtain ⟨Av, cv, rfl, _⟩ := ownsRow_form h2
    have hown := h2.lt
    have HO := Lib.hid hown
    have HD := Lib.hid hD
    clear h2 h3 hsp ha' he' hb ha he hg hown h1
    go_wp2
    obtain ⟨r2, r3, rsp, ra, re, rb⟩ := HR.out
    refine ⟨by simp, .inl ⟨_, _, rfl, run_takeDeferred HD.out, ?_⟩⟩
    have hP := Chg.putObj (fun k => k = w.heap.size + 1) W' (w.heap.size + 1) (.deferred none) rfl
    have hDl := (Array.getElem?_eq_some_iff.1 HD.out).1
    refine ⟨_, results_tmp rfl _ _ _, _, xs, a, er, rfl, own_mono (own_chg r2 hP (fun k hk q => by have := HO.out k hk; omega)) (by omega), fun x hx => ⟨own_mono (own_chg (r3 x hx).1 hP (fun k hk q => by have := (r3 x hx).1.lt k hk; omega)) (by omega), (r3 x hx).2⟩, rsp, ?_, ?_, ?_⟩
    · exact (World.cell?_of_block (hP.block w0.heap.size (World.block_lt_of_cell? W' _ ra) (by omega))).trans ra
    · exact (World.cell?_of_block (hP.block (w0.heap.size + 1) (World.block_lt_of_cell? W' _ re) (by omega))).trans re
    · exact rb.trans (hP.below rb.size (fun k q => by omega))

set_option maxHeartbeats 1000000 in
theorem collect_each (A : Option Addr) (n cap : Nat) (l : List UInt8) (w0 w : World) (h : BS w0 A n cap l) (hb0 : Below w0.heap.size w0 w) (hw : w0.heap.size + 5 ≤ w.heap.size) (hn : n ≤ 16777216)
    (k1 : w.cell? ⟨w0.heap.size + 3, 0, none⟩ = some (.pointer (some ⟨w0.heap.size, 0, none⟩))) (k2 : w.cell? ⟨w0.heap.size + 2, 0, none⟩ = some (.slice A n cap)) (k3 : w.cell? ⟨w0.heap.size + 4, 0, none⟩ = some (.pointer (some ⟨w0.heap.size + 1, 0, none⟩)))
    (ka : w.cell? ⟨w0.heap.size, 0, none⟩ = some (.int .i64 0)) (ke : w.cell? ⟨w0.heap.size + 1, 0, none⟩ = some (.int .i64 0)) (fa : w.frozen? ⟨w0.heap.size, 0, none⟩ = false) (fe : w.frozen? ⟨w0.heap.size + 1, 0, none⟩ = false) :
    Calls Try.prog 35 #[.func (.func 39) #[] #[.pointer (some ⟨w0.heap.size + 3, 0, none⟩), .pointer (some ⟨w0.heap.size + 2, 0, none⟩), .pointer (some ⟨w0.heap.size + 4, 0, none⟩)]] w (CollPost w.heap.size l w0) := by
  have HC := Lib.hid (appendSeq_each A n cap l w0 w h hb0 hw hn k1 k2 k3 ka ke fa fe)
  clear k1 k2 k3 ka ke fa fe
  go_enter Try.func35, Try.ntmps35
  go_wp2_with (go_at_call 38; refine HC.out.mono ?_; rintro e w1 ⟨v, xs, a, er, rfl, hrest⟩)
  go_ret
  exact ⟨v, xs, a, er, rfl, hrest⟩

/-- What Split answers. -/
def SplitPost (b : Nat) (l : List UInt8) (w0 : World) (e : Ending) (W' : World) : Prop :=
  ∃ (v : Value) (xs : List (Value × List UInt8)) (a er : Nat), e = .returned (.tuple #[v, .int .i64 a, .int .i64 er]) ∧ W'.ownsRow b 22 1 v xs.length (xs.map (·.1)) ∧ (∀ x ∈ xs, W'.ownsRow b 5 1 x.1 x.2.length (bl x.2) ∧ x.2.length ≤ 16777216) ∧
        Spl l (xs.map (·.2)) a er ∧ Below w0.heap.size w0 W'

/-- A cell of a block that has been laid, under blocks laid since. -/
theorem cell_up {w : World} {b : Nat} {v : Value} (o : Obj) (h : w.cell? ⟨b, 0, none⟩ = some v) : (w.alloc o).cell? ⟨b, 0, none⟩ = some v := (World.cell?_alloc_lt w o _ (World.block_lt_of_cell? w _ h)).trans h
theorem cell_laid (w : World) (v : Value) (t : TypeId) (b : Nat) (hb : b = w.heap.size) : (w.alloc (.cells #[v] t)).cell? ⟨b, 0, none⟩ = some v := by
  subst hb; exact cell_of_one (heap_alloc_new w _)
theorem free_laid (w : World) (v : Value) (t : TypeId) (b : Nat) (hb : b = w.heap.size) : (w.alloc (.cells #[v] t)).frozen? ⟨b, 0, none⟩ = false := by
  subst hb; exact free_of_one (heap_alloc_new w _)
theorem free_up {w : World} {b : Nat} (o : Obj) (hb : b < w.heap.size) (h : w.frozen? ⟨b, 0, none⟩ = false) : (w.alloc o).frozen? ⟨b, 0, none⟩ = false :=
  (World.frozen?_of_block (Below.heap_alloc w o b hb)).trans h

set_option maxHeartbeats 1000000 in
theorem split_any (A : Option Addr) (n cap : Nat) (l : List UInt8) (w0 : World) (h : BS w0 A n cap l) (hn : n ≤ 16777216) :
    Calls Try.prog 21 #[.slice A n cap] w0 (SplitPost w0.heap.size l w0) := by
  go_enter Try.func21, Try.ntmps21
  go_wp2_with (first | (go_at_call 35; fail) | (go_at_call 36; go_in))
  have z1 : (w0.alloc (.cells #[.int .i64 0] 3)).heap.size = w0.heap.size + 1 := World.size_alloc _ _
  have z2 : ((w0.alloc (.cells #[.int .i64 0] 3)).alloc (.cells #[.int .i64 0] 28)).heap.size = w0.heap.size + 2 := by simp
  have z3 : (((w0.alloc (.cells #[.int .i64 0] 3)).alloc (.cells #[.int .i64 0] 28)).alloc (.cells #[.slice A n cap] 22)).heap.size = w0.heap.size + 3 := by simp
  have z4 : ((((w0.alloc (.cells #[.int .i64 0] 3)).alloc (.cells #[.int .i64 0] 28)).alloc (.cells #[.slice A n cap] 22)).alloc (.cells #[.pointer (some ⟨w0.heap.size, 0, none⟩)] 73)).heap.size = w0.heap.size + 4 := by simp
  have z5 : (((((w0.alloc (.cells #[.int .i64 0] 3)).alloc (.cells #[.int .i64 0] 28)).alloc (.cells #[.slice A n cap] 22)).alloc (.cells #[.pointer (some ⟨w0.heap.size, 0, none⟩)] 73)).alloc (.cells #[.pointer (some ⟨w0.heap.size + 1, 0, none⟩)] 74)).heap.size = w0.heap.size + 5 := by simp
  have hb5 : Below w0.heap.size w0 (((((w0.alloc (.cells #[.int .i64 0] 3)).alloc (.cells #[.int .i64 0] 28)).alloc (.cells #[.slice A n cap] 22)).alloc (.cells #[.pointer (some ⟨w0.heap.size, 0, none⟩)] 73)).alloc (.cells #[.pointer (some ⟨w0.heap.size + 1, 0, none⟩)] 74)) :=
    (((((Below.refl _ w0).alloc (Nat.le_refl _) _).alloc (by omega) _).alloc (by omega) _).alloc (by omega) _).alloc (by omega) _
  refine (collect_each A n cap l w0 _ h hb5 (by omega) hn
    (cell_up _ (cell_laid _ _ _ _ z3.symm)) (cell_up _ (cell_up _ (cell_laid _ _ _ _ z2.symm))) (cell_laid _ _ _ _ z4.symm)
    (cell_up _ (cell_up _ (cell_up _ (cell_up _ (cell_laid _ _ _ _ rfl))))) (cell_up _ (cell_up _ (cell_up _ (cell_laid _ _ _ _ z1.symm))))
    (free_up _ (by omega) (free_up _ (by omega) (free_up _ (by omega) (free_up _ (by omega) (free_laid _ _ _ _ rfl))))) (free_up _ (by omega) (free_up _ (by omega) (free_up _ (by omega) (free_laid _ _ _ _ z1.symm))))).mono ?_
  rintro e w1 ⟨v, xs, a, er, rfl, hown, hrows, hsp, ha, he, hb⟩
  have HR := Lib.hid (And.intro hown (And.intro hrows (And.intro hsp hb)))
  rw [z5] at HR
  clear z1 z2 z3 z4 z5 hb5 hown hrows hsp hb
  go_wp2
  go_quiet (fail)
  go_wp2
  go_ret3
  obtain ⟨r1, r2, r3, r4⟩ := HR.out
  exact ⟨v, xs, a, er, rfl, own_mono r1 (by omega), fun x hx => ⟨own_mono (r2 x hx).1 (by omega), (r2 x hx).2⟩, r3, below_drewN r4 _⟩
end Go.Proofs.Ytgcglnohpmpnkaa
