/- Shadow evaluation, 24: a region that draws its order: each step keeps what holds. -/
import Derived.Test.YtjipcihcldngbaaGreatDoorShW
namespace Go.Sh
variable {P : Program} {ρ : Rho} {G : Nat}

theorem befGo_lt (ops : Array Oper) : ∀ (l : List Oper) (acc : Array Nat), (∀ j, l[j]? = ops[acc.size + j]?) →
    (∀ (j : Nat) (o : Oper), ops[j]? = some o → ∀ e ∈ o.after, Region.binds .any e = true → e.on < j) → (∀ j i, (acc.getD j 0).testBit i = true → i < j) → ∀ j i, ((befGo l acc).getD j 0).testBit i = true → i < j
  | [], acc, _, _, h => by simpa [befGo] using h
  | o :: r, acc, hl, hb, h => by
    unfold befGo
    refine befGo_lt ops r _ (fun j => ?_) hb (fun j i hbi => ?_)
    · have := hl (j + 1)
      simp only [List.getElem?_cons_succ] at this
      rw [this, Array.size_push]
      congr 1; omega
    · have ho : ops[acc.size]? = some o := by have := hl 0; simpa using this.symm
      simp only [Array.getD_eq_getD_getElem?, Array.getElem?_push] at hbi
      by_cases e : j = acc.size
      · subst e
        simp only [if_true, Option.getD_some] at hbi
        have key : ∀ (es : List Edge) (s : Nat), (∀ e ∈ es, e ∈ o.after) → (s.testBit i = true → i < acc.size) →
            (es.foldl (fun s e => bif Region.binds .any e then s ||| (2 ^ e.on) ||| (acc[e.on]?.getD 0) else s) s).testBit i = true → i < acc.size := by
          intro es
          induction es with
          | nil => intro s _ hs hb; exact hs hb
          | cons e es ih =>
            intro s hm hs hb'
            refine ih _ (fun e he => hm e (List.mem_cons_of_mem _ he)) (fun h1 => ?_) hb'
            dsimp only at h1
            cases hbe : Region.binds .any e with
            | false => rw [hbe] at h1; exact hs h1
            | true =>
              rw [hbe, cond_true, Nat.testBit_or, Nat.testBit_or] at h1
              have hon := hb _ o ho e (hm e (List.mem_cons_self ..)) hbe
              simp only [Bool.or_eq_true] at h1
              rcases h1 with (h1 | h1) | h1
              · exact hs h1
              · rw [Nat.testBit_two_pow] at h1
                have : e.on = i := by simpa using h1
                omega
              · have := h e.on i (by rw [Array.getD_eq_getD_getElem?]; exact h1)
                omega
        exact key o.after.toList 0 (fun e he => by simpa using he) (fun h0 => by simp at h0) (by simpa [Array.getD_eq_getD_getElem?] using hbi)
      · rw [if_neg e] at hbi
        exact h j i (by rw [Array.getD_eq_getD_getElem?]; exact hbi)
theorem bef_lt {ops : Array Oper} (h : RegOk P ops) {j i : Nat} (hb : bef ops j i = true) : i < j := by
  unfold bef at hb
  rw [bit_eq] at hb
  refine befGo_lt ops ops.toList #[] (fun j => by simp) h.back (fun j i hb => by simp at hb) j i ?_
  unfold befs at hb
  rw [Tr.get_ofList] at hb
  rw [Array.getD_eq_getD_getElem?]
  simpa using hb

structure Evo1 (G : Nat) (ρ : Rho) (σ : SW) (w : World) (ρ' : Rho) (σ' : SW) (w' : World) : Prop where
  ext : Ext ρ ρ'
  old : ∀ i, i < σ.next → ρ' i = ρ i
  next : σ.next ≤ σ'.next
  lv : ∀ i o, σ'.heap.get i = some o → i < σ.next → ∃ p, σ.heap.get i = some p
  nw : ∀ i o b c, σ'.heap.get i = some o → σ.next ≤ i → ρ' i = some (b, c) → w.heap.size ≤ b ∨ ∃ j p d, G ≤ j ∧ σ.heap.get j = some p ∧ ρ j = some (b, d)
  keep : Keep G ρ σ w w'

theorem Evo1.then {ρ1 ρ2 : Rho} {σ σ1 σ2 : SW} {w w1 w2 : World} (h : Evo1 G ρ σ w ρ1 σ1 w1) (k : Evo G ρ1 σ1 w1 ρ2 σ2 w2) : Evo1 G ρ σ w ρ2 σ2 w2 := by
  refine ⟨h.ext.trans k.ext, fun i hi => ?_, Nat.le_trans h.next k.next, fun i o hg hn => ?_, fun i o b c hg hn hρ => ?_, ?_⟩
  · rw [k.only i (.inl (by have := h.next; omega)), h.old i hi]
  · obtain ⟨p, hp⟩ := k.lv i o hg (by have := h.next; omega)
    exact h.lv i p hp hn
  · by_cases h1 : i < σ1.next
    · obtain ⟨p, hp⟩ := k.lv i o hg h1
      rw [k.only i (.inl h1)] at hρ
      exact h.nw i p b c hp hn hρ
    · rcases k.nw i o b c hg (by omega) hρ with h2 | ⟨j, p, d, hj, hp, hd⟩
      · exact .inl (Nat.le_trans h.keep.size h2)
      · by_cases h3 : j < σ.next
        · obtain ⟨q, hq⟩ := h.lv j p hp h3
          rw [h.old j h3] at hd
          exact .inr ⟨j, q, d, hj, hq, hd⟩
        · exact h.nw j p b d hp (by omega) hd
  · refine ⟨k.keep.os.trans h.keep.os, k.keep.tape.trans h.keep.tape, k.keep.output.trans h.keep.output, Nat.le_trans h.keep.size k.keep.size, fun b hb hn => ?_⟩
    rw [k.keep.block b (Nat.lt_of_lt_of_le hb h.keep.size) ?_, h.keep.block b hb hn]
    intro i o c hi hg hρ
    by_cases h3 : i < σ.next
    · obtain ⟨q, hq⟩ := h.lv i o hg h3
      rw [h.old i h3] at hρ
      exact hn i q c hi hq hρ
    · rcases h.nw i o b c hg (by omega) hρ with h2 | ⟨j, p, d, hj, hp, hd⟩
      · omega
      · exact hn j p d hj hp hd

/-- An alloc that has been carried out ahead of what stands ahead of it. -/
structure Pend (T : List En) (D : Nat → Prop) (m j : Nat) (x : En) (ob : SObj) (mk : Nat → Value) : Prop where
  d : D j
  m : m ≤ j
  at_ : T[j]? = some x
  k : x.k = .alloc ob mk

structure Inv (P : Program) (G : Nat) (ops : Array Oper) (fr0 : Fr) (T : List En) (b : Frame) (cs0 : List Frame) (w0 : World) (ρ0 : Rho) (D : Nat → Prop) (m : Nat) (ρ : Rho) (a : Act) (cs : List Frame) (w : World) : Prop where
  closed : Closed ops D
  lt : ∀ j, D j → j < ops.size
  nopan : ∀ (j : Nat) (x : En) ch, T[j]? = some x → x.k = .pan ch → ¬ D j
  noblk : ∀ (j : Nat) (x : En), T[j]? = some x → x.k = .blk → ¬ D j
  effd : ∀ (j : Nat) (x : En), T[j]? = some x → isEK x.k = true → D j → j < m
  mle : m ≤ ops.size
  pre : ∀ (j : Nat) (x : En), j < m → T[j]? = some x → isHK x.k = true → D j
  rel : Rel G ρ (frA fr0 T m).wk w
  t1 : ∀ (j : Nat) (x : En) d, D j → T[j]? = some x → x.o.dst = some d → ∃ v', a.tmps[d]? = some v' ∧ VR ρ x.v v'
  t0 : ∀ u v, (∀ (j : Nat) (x : En), D j → T[j]? = some x → x.o.dst ≠ some u) → fr0.tm.get u = some v → ∃ v', a.tmps[u]? = some v' ∧ VR ρ v v'
  n : fr0.n ≤ a.tmps.size
  dfs : DefsR ρ (frA fr0 T m).defers a.defers
  pc : PcR ρ (frA fr0 T m).pc b.kind cs
  csm : CsMod b.kind cs0 cs
  pend : ∀ j x ob mk, Pend T D m j x ob mk → ∃ bj ob', ρ x.fr.wk.next = some (bj, 0) ∧ w.heap[bj]? = some ob' ∧ ObjR ρ 0 ob ob' ∧ (∀ i o c, (frA fr0 T m).wk.heap.get i = some o → ρ i ≠ some (bj, c)) ∧ w0.heap.size ≤ bj
  pdis : ∀ j j' x x' ob ob' mk mk' bb, Pend T D m j x ob mk → Pend T D m j' x' ob' mk' → ρ x.fr.wk.next = some (bb, 0) → ρ x'.fr.wk.next = some (bb, 0) → j = j'
  fresh : ∀ i, (frA fr0 T m).wk.next ≤ i → ρ i = ρ0 i ∨ ∃ j x ob mk, Pend T D m j x ob mk ∧ i = x.fr.wk.next
  evo : Evo1 G ρ0 fr0.wk w0 ρ (frA fr0 T m).wk w

def Ready (ops : Array Oper) (D : Nat → Prop) (i : Nat) : Prop := ¬ D i ∧ ∃ o, ops[i]? = some o ∧ ∀ e ∈ o.after, Region.binds .any e = true → D e.on
def More (D : Nat → Prop) (i : Nat) : Nat → Prop := fun j => D j ∨ j = i

theorem More.closed {ops : Array Oper} {D : Nat → Prop} {i : Nat} (h : Closed ops D) (hr : Ready ops D i) : Closed ops (More D i) := by
  intro j o ho hj e he hb
  rcases hj with hj | rfl
  · exact .inl (h j o ho hj e he hb)
  · obtain ⟨_, o', ho', hall⟩ := hr
    rw [ho] at ho'; cases ho'
    exact .inl (hall e he hb)
theorem Ready.bef {ops : Array Oper} (hreg : RegOk P ops) {D : Nat → Prop} {i j : Nat} (h : Closed ops D) (hr : Ready ops D i) (hb : bef ops i j = true) : D j := by
  rcases bef_spec (More.closed h hr) hb (.inr rfl) with h1 | rfl
  · exact h1
  · have := bef_lt hreg hb; omega

section ctx
variable {ev : Ev} {rnd : Option Nat} {fn : Nat} {ops : Array Oper} {fr0 : Fr} {T : List En} {b : Frame} {cs0 cs : List Frame} {w0 w : World} {ρ0 : Rho} {D : Nat → Prop} {m : Nat} {a : Act}

theorem env_of {fr : Fr} (htm : TmR ρ fr.tm a.tmps) {σ : SW} (hr : Rel G ρ σ w) (hG : G = P.globals.size) : EnvR ρ (fr.env P) a.eval := by
  intro x v hv
  cases x with
  | tmp t =>
    obtain ⟨v', h1, h2⟩ := htm t v hv
    simp only [Act.eval]
    rw [Array.getD_eq_getD_getElem?, h1]; exact h2
  | const u =>
    simp only [Fr.env] at hv
    obtain ⟨hp, hv⟩ := cond_some hv
    cases hv
    exact plain_refl ρ hp
  | global g =>
    simp only [Fr.env] at hv
    obtain ⟨hp, hv⟩ := cond_some hv
    cases hv
    obtain ⟨c, hc⟩ := hr.glob g (by rw [hG]; exact blt_lt hp)
    exact .ptr _ _ _ _ hc
  | func f => cases hv; exact .func _ _ _ _ _ (by simp) rfl rfl (fun j v v' h => by simp at h) (fun j v v' h => by simp at h)

/-- The temporaries that an operation looks at are there when it may be carried out. -/
theorem Inv.looks (c : Ctx P G ev rnd fn ops fr0 T) (h : Inv P G ops fr0 T b cs0 w0 ρ0 D m ρ a cs w) {i : Nat} (hr : Ready ops D i) {x : En} (hx : T[i]? = some x) : TmR ρ (x.fr.at ops x.o).tm a.tmps := by
  intro u v hv
  obtain ⟨hu, hv⟩ := restr_get _ _ u v hv
  rw [← frA_at hx (fr0 := fr0)] at hv
  have hlt := c.lt hx
  rcases frA_tm c i (by omega) u v hv with ⟨j, y, hj, hy, hd, hyv, _, _⟩ | ⟨h0, hn⟩
  · have hD : D j := by
      rcases c.reg.ord j i _ _ hj (c.op hy) (c.op hx) with h1 | ⟨h1, _, _⟩
      · exact hr.bef c.reg h.closed h1
      · exact absurd hu (h1 u hd)
    obtain ⟨v', h1, h2⟩ := h.t1 j y u hD hy hd
    exact ⟨v', h1, by rw [← hyv]; exact h2⟩
  · refine h.t0 u v (fun j y hD hy hd => ?_) h0
    have hji : j ≠ i := fun e => by subst e; exact hr.1 hD
    by_cases hlt' : j < i
    · rcases hn j y hlt' hy hd with hk | ⟨ch, hk⟩
      · exact h.noblk j y hy hk hD
      · exact h.nopan j y ch hy hk hD
    · rcases c.reg.ord i j _ _ (by omega) (c.op hx) (c.op hy) with h1 | ⟨_, h1, _⟩
      · exact hr.1 (bef_spec h.closed h1 hD)
      · exact h1 u hd hu

theorem wanted_of {fr : Fr} (htm : TmR ρ fr.tm a.tmps) {o : Oper} {x : Bool} (hw : wantedS ops o fr = some x) : Region.wanted o (yielded ops a.tmps) = x :=
  wantedS_sound (P := (default : Program)) (ρ := ρ) (rnd := none) (fn := 0) (b := { (default : Frame) with fn := 0, kind := .normal, roundOf := none }) (cs := []) (fr := { fr with n := 0, defers := [], pc := none }) (a := { a with defers := [] })
    ⟨rfl, rfl, htm, Nat.zero_le _, trivial, .inl rfl⟩ hw

/-- The stage goes on over what is no matter of memory, and over an alloc that has been carried out. -/
theorem Inv.advance (c : Ctx P G ev rnd fn ops fr0 T) (h : Inv P G ops fr0 T b cs0 w0 ρ0 D m ρ a cs w) {x : En} (hx : T[m]? = some x) (hm : isHK x.k = false ∨ D m) : Inv P G ops fr0 T b cs0 w0 ρ0 D (m + 1) ρ a cs w := by
  have hlt := c.lt hx
  have hnx := c.next hx
  have hst := c.step hx
  have hfa := frA_at hx (fr0 := fr0)
  by_cases hh : isHK x.k = false
  · -- no matter of memory
    have he : isEK x.k = false := by cases hk : x.k <;> rw [hk] at hh <;> first | rfl | cases hh
    have hwk : (frA fr0 T (m + 1)).wk = (frA fr0 T m).wk := by rw [hnx, hfa]; exact hst.2.1 hh
    have hdf := hst.2.2.1 he
    have hp : ∀ j x' ob mk, Pend T D (m + 1) j x' ob mk → Pend T D m j x' ob mk := fun j x' ob mk hp => ⟨hp.d, by have := hp.m; omega, hp.at_, hp.k⟩
    refine ⟨h.closed, h.lt, h.nopan, h.noblk, fun j y hy hk hD => by have := h.effd j y hy hk hD; omega, by omega, fun j y hj hy hk => ?_, by rw [hwk]; exact h.rel, h.t1, h.t0, h.n, by rw [hnx, hdf.1, ← hfa]; exact h.dfs,
      by rw [hnx, hdf.2, ← hfa]; exact h.pc, h.csm, fun j x' ob mk hpd => by rw [hwk]; exact h.pend j x' ob mk (hp _ _ _ _ hpd), fun j j' x1 x2 o1 o2 m1 m2 bb p1 p2 => h.pdis j j' x1 x2 o1 o2 m1 m2 bb (hp _ _ _ _ p1) (hp _ _ _ _ p2), fun i hi => ?_, by rw [hwk]; exact h.evo⟩
    · by_cases e : j = m
      · subst e; rw [hx] at hy; cases hy; rw [hh] at hk; cases hk
      · exact h.pre j y (by omega) hy hk
    · rw [hwk] at hi
      rcases h.fresh i hi with h1 | ⟨j, x', ob, mk, hpd, e⟩
      · exact .inl h1
      · refine .inr ⟨j, x', ob, mk, ⟨hpd.d, ?_, hpd.at_, hpd.k⟩, e⟩
        have := hpd.m
        rcases Nat.lt_or_ge m j with h2 | h2
        · omega
        · have : j = m := by omega
          subst this
          have h3 := hpd.at_
          rw [hx] at h3; cases h3
          rw [hpd.k] at hh; cases hh
  · have hD : D m := hm.resolve_left hh
    -- an alloc
    have hal : ∃ ob mk, x.k = .alloc ob mk := by
      cases hk : x.k with
      | alloc ob mk => exact ⟨ob, mk, rfl⟩
      | eff => have := h.effd m x hx (by rw [hk]; rfl) hD; omega
      | pan ch => exact absurd hD (h.nopan m x ch hx hk)
      | _ => rw [hk] at hh; exact absurd rfl hh
    obtain ⟨ob, mk, hk⟩ := hal
    have hdf := hst.2.2.1 (by rw [hk]; rfl)
    have hwk : (frA fr0 T (m + 1)).wk = (frA fr0 T m).wk.push ob := by rw [hnx, hfa]; exact (hst.2.2.2.2.1 ob mk hk).1
    have hpm : Pend T D m m x ob mk := ⟨hD, Nat.le_refl _, hx, hk⟩
    obtain ⟨bm, obm, hρm, hwm, hom, hnl, hbm⟩ := h.pend m x ob mk hpm
    rw [← hfa] at hρm
    have hp : ∀ j x' ob mk, Pend T D (m + 1) j x' ob mk → Pend T D m j x' ob mk := fun j x' ob mk hp => ⟨hp.d, by have := hp.m; omega, hp.at_, hp.k⟩
    have hget : ∀ i o, ((frA fr0 T m).wk.push ob).heap.get i = some o → (i = (frA fr0 T m).wk.next ∧ o = ob) ∨ (i ≠ (frA fr0 T m).wk.next ∧ (frA fr0 T m).wk.heap.get i = some o) := fun i o hi => by
      simp only [SW.push, Tr.get_put] at hi
      by_cases e : (frA fr0 T m).wk.next = i
      · rw [if_pos e] at hi; cases hi; exact .inl ⟨e.symm, rfl⟩
      · rw [if_neg e] at hi; exact .inr ⟨Ne.symm e, hi⟩
    refine ⟨h.closed, h.lt, h.nopan, h.noblk, fun j y hy hk' hD' => by have := h.effd j y hy hk' hD'; omega, by omega, fun j y hj hy hk' => ?_, ?_, h.t1, h.t0, h.n, by rw [hnx, hdf.1, ← hfa]; exact h.dfs,
      by rw [hnx, hdf.2, ← hfa]; exact h.pc, h.csm, fun j x' ob' mk' hpd => ?_, fun j j' x1 x2 o1 o2 m1 m2 bb p1 p2 => h.pdis j j' x1 x2 o1 o2 m1 m2 bb (hp _ _ _ _ p1) (hp _ _ _ _ p2), fun i hi => ?_, ?_⟩
    · by_cases e : j = m
      · subst e; exact hD
      · exact h.pre j y (by omega) hy hk'
    · rw [hwk]
      refine ⟨fun i o hi => ?_, fun i j o p b1 c1 d1 hi hj hρi hρj => ?_, h.rel.glob, Nat.le_trans h.rel.gn (Nat.le_succ _)⟩
      · rcases hget i o hi with ⟨rfl, rfl⟩ | ⟨e, hi⟩
        · exact ⟨Nat.lt_succ_self _, bm, 0, obm, hρm, hwm, hom⟩
        · obtain ⟨h1, h2⟩ := h.rel.live i o hi
          exact ⟨Nat.lt_succ_of_lt h1, h2⟩
      · rcases hget i o hi with ⟨e, _⟩ | ⟨e, hi2⟩ <;> rcases hget j p hj with ⟨e', _⟩ | ⟨e', hj2⟩
        · rw [e, e']
        · rw [e, hρm] at hρi; cases hρi
          exact absurd hρj (hnl j p d1 hj2)
        · rw [e', hρm] at hρj; cases hρj
          exact absurd hρi (hnl i o c1 hi2)
        · exact h.rel.inj i j o p b1 c1 d1 hi2 hj2 hρi hρj
    · obtain ⟨bj, obj, h1, h2, h3, h4, h5⟩ := h.pend j x' ob' mk' (hp _ _ _ _ hpd)
      refine ⟨bj, obj, h1, h2, h3, fun i o c1 hi => ?_, h5⟩
      rw [hwk] at hi
      rcases hget i o hi with ⟨e, _⟩ | ⟨e, hi2⟩
      · intro e0
        rw [e, hρm] at e0
        have e1 : bm = bj := by cases e0; rfl
        have : m = j := h.pdis m j x x' _ _ _ _ bj hpm (hp _ _ _ _ hpd) (by rw [← hfa, ← e1]; exact hρm) h1
        have := hpd.m
        omega
      · exact h4 i o c1 hi2
    · rw [hwk] at hi
      simp only [SW.push] at hi
      rcases h.fresh i (by omega) with h1 | ⟨j, x', ob', mk', hpd, e⟩
      · exact .inl h1
      · refine .inr ⟨j, x', ob', mk', ⟨hpd.d, ?_, hpd.at_, hpd.k⟩, e⟩
        rcases Nat.lt_or_ge m j with h2 | h2
        · omega
        · have : j = m := by have := hpd.m; omega
          subst this
          have h3 := hpd.at_
          rw [hx] at h3; cases h3
          rw [hfa] at hi
          omega
    · rw [hwk]
      refine ⟨h.evo.ext, h.evo.old, Nat.le_trans h.evo.next (Nat.le_succ _), fun i o hi hn => ?_, fun i o b1 c1 hi hn hρi => ?_, h.evo.keep⟩
      · rcases hget i o hi with ⟨rfl, rfl⟩ | ⟨e, hi⟩
        · have := h.evo.next; omega
        · exact h.evo.lv i o hi hn
      · rcases hget i o hi with ⟨rfl, rfl⟩ | ⟨e, hi⟩
        · rw [hρm] at hρi; cases hρi; exact .inl hbm
        · exact h.evo.nw i o b1 c1 hi hn hρi

/-- The stage goes as far as it can. -/
theorem Inv.far (c : Ctx P G ev rnd fn ops fr0 T) : ∀ (k : Nat) {m : Nat}, ops.size - m ≤ k → Inv P G ops fr0 T b cs0 w0 ρ0 D m ρ a cs w →
    ∃ m', Inv P G ops fr0 T b cs0 w0 ρ0 D m' ρ a cs w ∧ (m' = ops.size ∨ ∃ x, T[m']? = some x ∧ isHK x.k = true ∧ ¬ D m')
  | 0, m, hk, h => ⟨m, h, .inl (by have := h.mle; omega)⟩
  | k + 1, m, hk, h => by
    by_cases e : m = ops.size
    · exact ⟨m, h, .inl e⟩
    · obtain ⟨x, hx⟩ := c.at_ (show m < ops.size by have := h.mle; omega)
      by_cases hs : isHK x.k = true ∧ ¬ D m
      · exact ⟨m, h, .inr ⟨x, hx, hs.1, hs.2⟩⟩
      · have : isHK x.k = false ∨ D m := by
          cases hb : isHK x.k with
          | false => exact .inl rfl
          | true => exact .inr (Classical.byContradiction fun hn => hs ⟨hb, hn⟩)
        exact Inv.far c k (by omega) (h.advance c hx this)

end ctx
end Go.Sh
