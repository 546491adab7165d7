/- Shadow evaluation, 25: a region that draws its order: an operation is carried out. -/
import Derived.Test.YtjipcihcldngbaaGreatDoorShX
namespace Go.Sh
variable {P : Program} {ρ : Rho} {G : Nat}

section ctx
variable {ev : Ev} {rnd : Option Nat} {fn : Nat} {ops : Array Oper} {fr0 : Fr} {T : List En} {b : Frame} {cs0 cs : List Frame} {w0 w : World} {ρ0 : Rho} {D : Nat → Prop} {m : Nat} {a : Act}

theorem put_tmps (a : Act) (d : Option Tmp) (v : Value) (u : Nat) : (a.put d v).tmps[u]? = if d = some u ∧ u < a.tmps.size then some v else a.tmps[u]? := by
  cases d with
  | none => simp [Act.put]
  | some t =>
    simp only [Act.put, Option.some.injEq]
    by_cases e : t = u
    · subst e
      by_cases hs : t < a.tmps.size
      · simp [hs]
      · simp [hs]
    · rw [Array.getElem?_setIfInBounds_ne e, if_neg (fun h => e h.1)]
theorem put_size (a : Act) (d : Option Tmp) (v : Value) : (a.put d v).tmps.size = a.tmps.size := by cases d <;> simp [Act.put]

theorem Inv.tm_more (c : Ctx P G ev rnd fn ops fr0 T) (h : Inv P G ops fr0 T b cs0 w0 ρ0 D m ρ a cs w) {i : Nat} (hr : Ready ops D i) {x : En} (hx : T[i]? = some x) {ρ' : Rho} (he : Ext ρ ρ') {a' : Act} {v' : Value} (ha : a'.tmps = (a.put x.o.dst v').tmps)
    (hv : ∀ d, x.o.dst = some d → d < a.tmps.size ∧ VR ρ' x.v v') :
    (∀ (j : Nat) (y : En) d, More D i j → T[j]? = some y → y.o.dst = some d → ∃ u, a'.tmps[d]? = some u ∧ VR ρ' y.v u) ∧
    (∀ u v, (∀ (j : Nat) (y : En), More D i j → T[j]? = some y → y.o.dst ≠ some u) → fr0.tm.get u = some v → ∃ v', a'.tmps[u]? = some v' ∧ VR ρ' v v') ∧ fr0.n ≤ a'.tmps.size := by
  refine ⟨fun j y d hj hy hd => ?_, fun u v hn hu => ?_, by rw [ha, put_size]; exact h.n⟩
  · rw [ha, put_tmps]
    rcases hj with hj | rfl
    · have hij : i ≠ j := fun e => by subst e; exact hr.1 hj
      have hne : x.o.dst ≠ some d := by
        rcases Nat.lt_or_ge i j with h1 | h1
        · intro e; exact c.reg.uniq i j _ _ d h1 (c.op hx) (c.op hy) e hd
        · exact c.reg.uniq j i _ _ d (by omega) (c.op hy) (c.op hx) hd
      rw [if_neg (fun e => hne e.1)]
      obtain ⟨u, h1, h2⟩ := h.t1 j y d hj hy hd
      exact ⟨u, h1, h2.mono he⟩
    · rw [hx] at hy; cases hy
      obtain ⟨h1, h2⟩ := hv d hd
      rw [if_pos ⟨hd, h1⟩]
      exact ⟨v', rfl, h2⟩
  · rw [ha, put_tmps, if_neg (fun e => hn i x (.inr rfl) hx e.1)]
    obtain ⟨z, h1, h2⟩ := h.t0 u v (fun j y hj hy => hn j y (.inl hj) hy) hu
    exact ⟨z, h1, h2.mono he⟩

theorem Inv.noblk_ready (c : Ctx P G ev rnd fn ops fr0 T) (h : Inv P G ops fr0 T b cs0 w0 ρ0 D m ρ a cs w) {i : Nat} (hr : Ready ops D i) {x : En} (hx : T[i]? = some x) : x.k ≠ .blk := by
  intro hk
  rcases c.ok.get i x hx with ⟨h1, _⟩ | ⟨q, y, ch, _, hy, hyk, h1⟩
  · have := h1.2; rw [hk] at this
    obtain ⟨_, p, hp, _⟩ := this
    cases hp
  · have := h1.2; rw [hk] at this
    obtain ⟨_, p, hp, hb⟩ := this
    cases hp
    exact h.nopan q y ch hy hyk (by simpa using hr.bef c.reg h.closed (by simpa using hb))

theorem Inv.dst_lt (c : Ctx P G ev rnd fn ops fr0 T) (h : Inv P G ops fr0 T b cs0 w0 ρ0 D m ρ a cs w) {i : Nat} {x : En} (hx : T[i]? = some x) (hb : x.k ≠ .blk) (hp : ∀ ch, x.k ≠ .pan ch) {d : Tmp} (hd : x.o.dst = some d) : d < a.tmps.size := by
  have h1 := (c.step hx).2.2.2.2.2.2 d hd hb hp
  have h2 := frA_n c i (by have := c.lt hx; omega)
  rw [frA_at hx] at h2
  rw [h2] at h1
  exact Nat.lt_of_lt_of_le h1 h.n

/-- What is no matter of memory. -/
theorem Inv.val (c : Ctx P G ev rnd fn ops fr0 T) (h : Inv P G ops fr0 T b cs0 w0 ρ0 D m ρ a cs w) {i : Nat} (hr : Ready ops D i) {x : En} (hx : T[i]? = some x) (hk : isHK x.k = false) {v' : Value} (hv : VR ρ x.v v') :
    Inv P G ops fr0 T b cs0 w0 ρ0 (More D i) m ρ (a.put x.o.dst v') cs w := by
  have hb := h.noblk_ready c hr hx
  have hp : ∀ ch, x.k ≠ .pan ch := fun ch e => by rw [e] at hk; cases hk
  have he : isEK x.k = false := by cases e : x.k <;> rw [e] at hk <;> first | rfl | cases hk
  obtain ⟨t1, t0, n⟩ := h.tm_more c hr hx (Ext.refl ρ) rfl (fun d hd => ⟨h.dst_lt c hx hb hp hd, hv⟩)
  have hpd : ∀ j y ob mk, Pend T (More D i) m j y ob mk → Pend T D m j y ob mk := fun j y ob mk hq => by
    refine ⟨?_, hq.m, hq.at_, hq.k⟩
    rcases hq.d with h1 | rfl
    · exact h1
    · have := hq.at_; rw [hx] at this; cases this
      rw [hq.k] at hk; cases hk
  refine ⟨More.closed h.closed hr, fun j hj => ?_, fun j y ch hy hyk hj => ?_, fun j y hy hyk hj => ?_, fun j y hy hyk hj => ?_, h.mle, fun j y hj hy hyk => .inl (h.pre j y hj hy hyk), h.rel, t1, t0, n, by cases e : x.o.dst <;> exact h.dfs, h.pc, h.csm,
    fun j y ob mk hq => h.pend j y ob mk (hpd _ _ _ _ hq), fun j j' x1 x2 o1 o2 m1 m2 bb p1 p2 => h.pdis j j' x1 x2 o1 o2 m1 m2 bb (hpd _ _ _ _ p1) (hpd _ _ _ _ p2), fun j hj => ?_, h.evo⟩
  · rcases hj with hj | rfl
    · exact h.lt j hj
    · exact c.lt hx
  · rcases hj with hj | rfl
    · exact h.nopan j y ch hy hyk hj
    · rw [hx] at hy; cases hy; exact hp ch hyk
  · rcases hj with hj | rfl
    · exact h.noblk j y hy hyk hj
    · rw [hx] at hy; cases hy; exact hb hyk
  · rcases hj with hj | rfl
    · exact h.effd j y hy hyk hj
    · rw [hx] at hy; cases hy; rw [he] at hyk; cases hyk
  · rcases h.fresh j hj with h1 | ⟨q, y, ob, mk, hq, e⟩
    · exact .inl h1
    · exact .inr ⟨q, y, ob, mk, ⟨.inl hq.d, hq.m, hq.at_, hq.k⟩, e⟩

/-- An alloc. -/
theorem Inv.alloc (c : Ctx P G ev rnd fn ops fr0 T) (h : Inv P G ops fr0 T b cs0 w0 ρ0 D m ρ a cs w) {i : Nat} (hr : Ready ops D i) {x : En} (hx : T[i]? = some x) {ob : SObj} {mk : Nat → Value} (hk : x.k = .alloc ob mk)
    (hf0 : ∀ j, fr0.wk.next ≤ j → j < (frA fr0 T ops.size).wk.next → ρ0 j = none) {ob' : Obj} {mk' : Nat → Value} (ho : ∀ ρ', Ext ρ ρ' → ObjR ρ' 0 ob ob') (hmk : ∀ (ρ' : Rho) i b, ρ' i = some (b, 0) → VR ρ' (mk i) (mk' b)) :
    Inv P G ops fr0 T b cs0 w0 ρ0 (More D i) m (upd ρ x.fr.wk.next (w.heap.size, 0)) (a.put x.o.dst (mk' w.heap.size)) cs (w.alloc ob') := by
  have hb : x.k ≠ .blk := by rw [hk]; simp
  have hp : ∀ ch, x.k ≠ .pan ch := fun ch => by rw [hk]; simp
  have hxl := c.lt hx
  have hfx := frA_at hx (fr0 := fr0)
  have hmi : m ≤ i := by
    rcases Nat.lt_or_ge i m with h1 | h1
    · exact absurd (h.pre i x h1 hx (by rw [hk]; rfl)) hr.1
    · exact h1
  have hnm : (frA fr0 T m).wk.next ≤ x.fr.wk.next := by rw [← hfx]; exact frA_next c hmi (by omega)
  have hst := (c.step hx).2.2.2.2.1 ob mk hk
  have hnx : (frA fr0 T (i + 1)).wk.next = x.fr.wk.next + 1 := by rw [c.next hx, hst.1]; rfl
  have hlast : x.fr.wk.next < (frA fr0 T ops.size).wk.next := by
    have := frA_next c (i := i + 1) (j := ops.size) (by omega) (Nat.le_refl _)
    omega
  have hfirst : fr0.wk.next ≤ x.fr.wk.next := by
    have := frA_next c (i := 0) (j := i) (by omega) (by omega)
    rw [c.ok.first, hfx] at this; exact this
  -- two allocs have two numbers
  have hdist : ∀ j y ob2 mk2, T[j]? = some y → y.k = .alloc ob2 mk2 → j ≠ i → y.fr.wk.next ≠ x.fr.wk.next := fun j y ob2 mk2 hy hyk hji => by
    have hyl := c.lt hy
    have hsy := (c.step hy).2.2.2.2.1 ob2 mk2 hyk
    have hny : (frA fr0 T (j + 1)).wk.next = y.fr.wk.next + 1 := by rw [c.next hy, hsy.1]; rfl
    rcases Nat.lt_or_ge j i with h1 | h1
    · have := frA_next c (i := j + 1) (j := i) (by omega) (by omega)
      rw [hfx] at this; omega
    · have := frA_next c (i := i + 1) (j := j) (by omega) (by omega)
      rw [frA_at hy] at this; omega
  have hnone : ρ x.fr.wk.next = none := by
    rcases h.fresh x.fr.wk.next hnm with h1 | ⟨j, y, ob2, mk2, hq, e⟩
    · rw [h1]; exact hf0 _ hfirst hlast
    · exact absurd e.symm (hdist j y ob2 mk2 hq.at_ hq.k (fun e0 => by subst e0; exact hr.1 hq.d))
  have he : Ext ρ (upd ρ x.fr.wk.next (w.heap.size, 0)) := upd_ext hnone
  have hlive : ∀ j o, (frA fr0 T m).wk.heap.get j = some o → j ≠ x.fr.wk.next := fun j o hj => by have := h.rel.get_lt hj; omega
  have hblk : ∀ k, k < w.heap.size → (w.alloc ob').heap[k]? = w.heap[k]? := fun k hk => by
    show (w.heap.push ob')[k]? = _
    rw [Array.getElem?_push, if_neg (by omega)]
  obtain ⟨t1, t0, n⟩ := h.tm_more c hr hx he (a' := a.put x.o.dst (mk' w.heap.size)) rfl (fun d hd => ⟨h.dst_lt c hx hb hp hd, by rw [hst.2]; exact hmk _ _ _ (upd_same _ _ _)⟩)
  have hpd : ∀ j y ob2 mk2, Pend T (More D i) m j y ob2 mk2 → (j = i ∧ y = x) ∨ (j ≠ i ∧ Pend T D m j y ob2 mk2) := fun j y ob2 mk2 hq => by
    by_cases e : j = i
    · subst e; have := hq.at_; rw [hx] at this; cases this; exact .inl ⟨rfl, rfl⟩
    · exact .inr ⟨e, hq.d.resolve_right e, hq.m, hq.at_, hq.k⟩
  refine ⟨More.closed h.closed hr, fun j hj => ?_, fun j y ch hy hyk hj => ?_, fun j y hy hyk hj => ?_, fun j y hy hyk hj => ?_, h.mle, fun j y hj hy hyk => .inl (h.pre j y hj hy hyk), ?_, t1, t0, n, by cases e : x.o.dst <;> exact h.dfs.mono he, h.pc.mono he, h.csm,
    fun j y ob2 mk2 hq => ?_, fun j j' x1 x2 o1 o2 m1 m2 bb p1 p2 q1 q2 => ?_, fun j hj => ?_, ?_⟩
  · rcases hj with hj | rfl
    · exact h.lt j hj
    · exact hxl
  · rcases hj with hj | rfl
    · exact h.nopan j y ch hy hyk hj
    · rw [hx] at hy; cases hy; exact hp ch hyk
  · rcases hj with hj | rfl
    · exact h.noblk j y hy hyk hj
    · rw [hx] at hy; cases hy; exact hb hyk
  · rcases hj with hj | rfl
    · exact h.effd j y hy hyk hj
    · rw [hx] at hy; cases hy; rw [hk] at hyk; cases hyk
  · -- the relation
    refine ⟨fun j o hj => ?_, fun j k o p b1 c1 d1 hj hk' hρj hρk => ?_, fun g hg => ?_, h.rel.gn⟩
    · obtain ⟨h1, b1, c1, o1, h2, h3, h4⟩ := h.rel.live j o hj
      exact ⟨h1, b1, c1, o1, he _ _ h2, by rw [hblk b1 (heap_lt h3)]; exact h3, h4.mono he⟩
    · rw [upd_other (hlive j o hj)] at hρj
      rw [upd_other (hlive k p hk')] at hρk
      exact h.rel.inj j k o p b1 c1 d1 hj hk' hρj hρk
    · obtain ⟨c1, hc⟩ := h.rel.glob g hg
      exact ⟨c1, he _ _ hc⟩
  · rcases hpd j y ob2 mk2 hq with ⟨rfl, rfl⟩ | ⟨hne, hq'⟩
    · have : ob2 = ob := by have := hq.k; rw [hk] at this; cases this; rfl
      subst this
      refine ⟨w.heap.size, ob', upd_same _ _ _, by show (w.heap.push ob')[w.heap.size]? = _; simp, ho _ he, fun q o c1 hq1 => ?_, h.evo.keep.size⟩
      rw [upd_other (hlive q o hq1)]
      intro e
      obtain ⟨_, b1, c2, o1, h2, h3, _⟩ := h.rel.live q o hq1
      rw [h2] at e; cases e
      have := heap_lt h3; omega
    · obtain ⟨bj, obj, h1, h2, h3, h4, h5⟩ := h.pend j y ob2 mk2 hq'
      refine ⟨bj, obj, he _ _ h1, by rw [hblk bj (heap_lt h2)]; exact h2, h3.mono he, fun q o c1 hq1 => ?_, h5⟩
      rw [upd_other (hlive q o hq1)]
      exact h4 q o c1 hq1
  · rcases hpd j x1 o1 m1 p1 with ⟨rfl, rfl⟩ | ⟨hne, p1'⟩ <;> rcases hpd j' x2 o2 m2 p2 with ⟨rfl, rfl⟩ | ⟨hne', p2'⟩
    · rfl
    · rw [upd_same] at q1; cases q1
      obtain ⟨bj, obj, h1, h2, _⟩ := h.pend j' x2 o2 m2 p2'
      rw [he _ _ h1] at q2; cases q2
      have := heap_lt h2; omega
    · rw [upd_same] at q2; cases q2
      obtain ⟨bj, obj, h1, h2, _⟩ := h.pend j x1 o1 m1 p1'
      rw [he _ _ h1] at q1; cases q1
      have := heap_lt h2; omega
    · obtain ⟨bj, obj, h1, _⟩ := h.pend j x1 o1 m1 p1'
      obtain ⟨bj', obj', h1', _⟩ := h.pend j' x2 o2 m2 p2'
      rw [he _ _ h1] at q1; cases q1
      rw [he _ _ h1'] at q2; cases q2
      exact h.pdis j j' x1 x2 o1 o2 m1 m2 bb p1' p2' h1 h1'
  · by_cases e : j = x.fr.wk.next
    · exact .inr ⟨i, x, ob, mk, ⟨.inr rfl, hmi, hx, hk⟩, e⟩
    · rw [upd_other e]
      rcases h.fresh j hj with h1 | ⟨q, y, ob2, mk2, hq, e'⟩
      · exact .inl h1
      · exact .inr ⟨q, y, ob2, mk2, ⟨.inl hq.d, hq.m, hq.at_, hq.k⟩, e'⟩
  · refine ⟨h.evo.ext.trans he, fun j hj => ?_, h.evo.next, h.evo.lv, fun j o b1 c1 hj hn hρ => ?_, ⟨h.evo.keep.os, h.evo.keep.tape, h.evo.keep.output, ?_, fun k hk1 hn => ?_⟩⟩
    · rw [upd_other (by omega), h.evo.old j hj]
    · rw [upd_other (hlive j o hj)] at hρ
      exact h.evo.nw j o b1 c1 hj hn hρ
    · have := h.evo.keep.size; simp only [World.size_alloc]; omega
    · rw [hblk k (by have := h.evo.keep.size; omega)]
      exact h.evo.keep.block k hk1 hn

end ctx
end Go.Sh
