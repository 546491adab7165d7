/- Shadow evaluation, 26: a region that draws its order: all of it. -/
import Derived.Test.YtjipcihcldngbaaGreatDoorShY
namespace Go.Sh
variable {P : Program} {ρ : Rho} {G : Nat}

theorem countP_lt {α : Type} {p q : α → Bool} : ∀ {l : List α}, (∀ x ∈ l, q x = true → p x = true) → (∃ x ∈ l, p x = true ∧ q x = false) → l.countP q < l.countP p
  | [], _, h => by obtain ⟨x, hx, _⟩ := h; simp at hx
  | y :: l, h, k => by
    have hle : l.countP q ≤ l.countP p := List.countP_mono_left fun x hx hq => h x (List.mem_cons_of_mem _ hx) hq
    obtain ⟨x, hx, hp, hq⟩ := k
    simp only [List.countP_cons]
    rcases List.mem_cons.1 hx with rfl | hx
    · simp [hp, hq]; omega
    · have := countP_lt (l := l) (fun x hx hq => h x (List.mem_cons_of_mem _ hx) hq) ⟨x, hx, hp, hq⟩
      have h1 := h y (List.mem_cons_self ..)
      cases hqy : q y with
      | true => simp [h1 hqy]; omega
      | false => cases p y <;> simp <;> omega

def Dl (listed : Array Bool) : Nat → Prop := fun j => listed.getD j false = true
theorem Dl_set {listed : Array Bool} {i : Nat} (h : i < listed.size) : Dl (listed.setIfInBounds i true) = More (Dl listed) i := by
  funext j
  apply propext
  unfold Dl More
  simp only [Array.getD_eq_getD_getElem?]
  by_cases e : i = j
  · subst e; simp [h]
  · rw [Array.getElem?_setIfInBounds_ne e]
    constructor
    · exact .inl
    · rintro (h1 | h1)
      · exact h1
      · exact absurd h1.symm e

theorem Evo.from_draw {ρ' : Rho} {σ σ' : SW} {w w1 w' : World} (h : Evo G ρ σ w1 ρ' σ' w') (ho : w1.os = w.os) (ht : w1.tape = w.tape) (hu : w1.output = w.output) (hh : w1.heap = w.heap) : Evo G ρ σ w ρ' σ' w' :=
  ⟨h.ext, h.only, h.next, h.lv, fun i o b c hg hn hρ => by rw [← hh]; exact h.nw i o b c hg hn hρ, h.rel,
    ⟨h.keep.os.trans ho, h.keep.tape.trans ht, h.keep.output.trans hu, by rw [← hh]; exact h.keep.size, fun b hb hn => by rw [← hh]; exact h.keep.block b (by rw [hh]; exact hb) hn⟩⟩

section ctx
variable {ev : Ev} {rnd : Option Nat} {fn : Nat} {ops : Array Oper} {fr0 : Fr} {T : List En} {b : Frame} {cs0 cs : List Frame} {w0 w : World} {ρ0 : Rho} {D : Nat → Prop} {m : Nat} {a : Act}

/-- How the frame stands that does not change. -/
structure Base (ρ0 : Rho) (rnd : Option Nat) (fn : Nat) (b : Frame) : Prop where
  fn : b.fn = fn
  rnd : match rnd with | none => b.roundOf = none | some l => ∃ b' c, ρ0 l = some (b', c) ∧ b.roundOf = some b'
theorem Base.mono {ρ0 ρ : Rho} (he : Ext ρ0 ρ) (h : Base ρ0 rnd fn b) : Base ρ rnd fn b :=
  ⟨h.fn, by have := h.rnd; cases rnd with
    | none => exact this
    | some l => obtain ⟨b', c, h1, h2⟩ := this; exact ⟨b', c, he _ _ h1, h2⟩⟩

theorem Inv.fst (c : Ctx P G ev rnd fn ops fr0 T) (hB : Base ρ0 rnd fn b) (h : Inv P G ops fr0 T b cs0 w0 ρ0 D m ρ a cs w) (hr : Ready ops D m) {x : En} (hx : T[m]? = some x) : Fst P ρ rnd fn (x.fr.at ops x.o) b a cs := by
  have hB' := hB.mono h.evo.ext
  have hfx := frA_at hx (fr0 := fr0)
  have hn := frA_n c m h.mle
  rw [hfx] at hn
  have hd := h.dfs
  have hp := h.pc
  rw [hfx] at hd hp
  exact ⟨hB'.fn, hB'.rnd, h.looks c hr hx, by show x.fr.n ≤ _; rw [hn]; exact h.n, hd, hp⟩

theorem Inv.freshTo (c : Ctx P G ev rnd fn ops fr0 T) (h : Inv P G ops fr0 T b cs0 w0 ρ0 D m ρ a cs w) {x : En} (hx : T[m]? = some x) (hk : ∀ ob mk, x.k ≠ .alloc ob mk)
    (hf0 : ∀ j, fr0.wk.next ≤ j → j < (frA fr0 T (m + 1)).wk.next → ρ0 j = none) : Fresh ρ (frA fr0 T m).wk (frA fr0 T (m + 1)).wk := by
  intro j h1 h2
  have hlt := c.lt hx
  rcases h.fresh j h1 with h3 | ⟨q, y, ob, mk, hq, e⟩
  · rw [h3]
    have := frA_next c (i := 0) (j := m) (by omega) (by omega)
    rw [c.ok.first] at this
    exact hf0 j (by omega) h2
  · exfalso
    have hqm := hq.m
    have hqn : q ≠ m := fun e0 => by subst e0; have := hq.at_; rw [hx] at this; cases this; exact hk _ _ hq.k
    have := frA_next c (i := m + 1) (j := q) (by omega) (by have := c.lt hq.at_; omega)
    rw [frA_at hq.at_] at this
    omega

/-- An effect. -/
theorem Inv.eff (c : Ctx P G ev rnd fn ops fr0 T) (hB : Base ρ0 rnd fn b) (h : Inv P G ops fr0 T b cs0 w0 ρ0 D m ρ a cs w) (hr : Ready ops D m) {x : En} (hx : T[m]? = some x) (hk : x.k = .eff)
    (hf0 : ∀ j, fr0.wk.next ≤ j → j < (frA fr0 T ops.size).wk.next → ρ0 j = none) (rest : List Nat) (k : List Item) :
    ∃ ρ' a' cs' w', Inv P G ops fr0 T b cs0 w0 ρ0 (More D m) (m + 1) ρ' a' cs' w' ∧ Steps P (lone (b.atR a (.inRegion ops (m :: rest) :: k)) cs w) (lone (b.atR a' (.inRegion ops rest :: k)) cs' w') := by
  have hlt := c.lt hx
  obtain ⟨pan, ho, hE⟩ := c.ent hx
  rw [hk] at hE
  obtain ⟨_, hw, hcl, f, hf, hval, hput⟩ := hE
  have hfx := frA_at hx (fr0 := fr0)
  have hnx := c.next hx
  have pp := put_parts hput
  have hwk : (frA fr0 T (m + 1)).wk = f.wk := by rw [hnx, pp.2.1]
  have hF := h.fst c hB hr hx
  have hok := effOp_sound (fn := fn) c.hG c.he (chk_some hf).1
  have hrel : Rel G ρ (x.fr.at ops x.o).wk w := by have := h.rel; rw [hfx] at this; exact this
  have hfr : Fresh ρ (x.fr.at ops x.o).wk f.wk := by
    have := h.freshTo c hx (fun ob mk => by rw [hk]; simp) (fun j h1 h2 => hf0 j h1 (by have := frA_next c (i := m + 1) (j := ops.size) (by omega) (Nat.le_refl _); omega))
    rw [hwk, hfx] at this; exact this
  obtain ⟨ρ', a', cs', w', hev, hF', hcm, htm, hs⟩ := hok ρ b a cs w ops m rest k ho (wanted_of (h.looks c hr hx) hw) hF hrel hfr
  have hev' : Evo G ρ (frA fr0 T m).wk w ρ' f.wk w' := by rw [hfx]; exact hev
  have hmD : ¬ D m := hr.1
  obtain ⟨v', hat⟩ : ∃ v', a'.tmps = (a.put x.o.dst v').tmps := by
    rcases htm with ⟨_, v', h1⟩ | ⟨h1, _⟩
    · exact ⟨v', h1⟩
    · exact absurd rfl h1
  have hvv : ∀ d, x.o.dst = some d → d < a.tmps.size ∧ VR ρ' x.v v' := fun d hd => by
    have h1 := h.dst_lt c hx (by rw [hk]; simp) (fun ch => by rw [hk]; simp) hd
    refine ⟨h1, ?_⟩
    obtain ⟨u, h2, h3⟩ := hF'.tm d _ (hval d hd)
    rw [hat, put_tmps, if_pos ⟨hd, h1⟩] at h2
    cases h2; exact h3
  obtain ⟨t1, t0, n⟩ := h.tm_more c hr hx hev'.ext hat hvv
  have hpd : ∀ j y ob mk, Pend T (More D m) (m + 1) j y ob mk → Pend T D m j y ob mk := fun j y ob mk hq =>
    ⟨hq.d.resolve_right (by have := hq.m; omega), by have := hq.m; omega, hq.at_, hq.k⟩
  have hsm : x.fr'.defers = f.defers ∧ x.fr'.pc = f.pc := ⟨pp.1.defers, pp.1.pc⟩
  refine ⟨ρ', a', cs', w', ⟨More.closed h.closed hr, fun j hj => ?_, fun j y ch hy hyk hj => ?_, fun j y hy hyk hj => ?_, fun j y hy hyk hj => ?_, by omega, fun j y hj hy hyk => ?_, by rw [hwk]; exact hev'.rel, t1, t0, n,
    by rw [hnx, hsm.1]; exact hF'.dfs, by rw [hnx, hsm.2]; exact hF'.pc, h.csm.trans hcm, fun j y ob mk hq => ?_, fun j j' x1 x2 o1 o2 m1 m2 bb p1 p2 q1 q2 => ?_, fun j hj => ?_, by rw [hwk]; exact h.evo.then hev'⟩, hs⟩
  · rcases hj with hj | rfl
    · exact h.lt j hj
    · exact hlt
  · rcases hj with hj | rfl
    · exact h.nopan j y ch hy hyk hj
    · rw [hx] at hy; cases hy; rw [hk] at hyk; cases hyk
  · rcases hj with hj | rfl
    · exact h.noblk j y hy hyk hj
    · rw [hx] at hy; cases hy; rw [hk] at hyk; cases hyk
  · rcases hj with hj | rfl
    · have := h.effd j y hy hyk hj; omega
    · exact Nat.lt_succ_self _
  · by_cases e : j = m
    · exact .inr e
    · exact .inl (h.pre j y (by omega) hy hyk)
  · obtain ⟨bj, obj, h1, h2, h3, h4, h5⟩ := h.pend j y ob mk (hpd _ _ _ _ hq)
    have hbj := heap_lt h2
    refine ⟨bj, obj, hev'.ext _ _ h1, ?_, h3.mono hev'.ext, fun i o c1 hi => ?_, h5⟩
    · rw [hev'.keep.block bj hbj (fun i o c1 _ hi => h4 i o c1 hi)]; exact h2
    · rw [hwk] at hi
      intro e
      by_cases hlt' : i < (frA fr0 T m).wk.next
      · obtain ⟨p, hp⟩ := hev'.lv i o hi hlt'
        rw [hev'.only i (.inl hlt')] at e
        exact h4 i p c1 hp e
      · rcases hev'.nw i o bj c1 hi (by omega) e with h6 | ⟨q, p, d, _, hp, hd⟩
        · omega
        · exact h4 q p d hp hd
  · obtain ⟨bj, obj, h1, _⟩ := h.pend j x1 o1 m1 (hpd _ _ _ _ p1)
    obtain ⟨bj', obj', h1', _⟩ := h.pend j' x2 o2 m2 (hpd _ _ _ _ p2)
    rw [hev'.ext _ _ h1] at q1; cases q1
    rw [hev'.ext _ _ h1'] at q2; cases q2
    exact h.pdis j j' x1 x2 o1 o2 m1 m2 bb (hpd _ _ _ _ p1) (hpd _ _ _ _ p2) h1 h1'
  · rw [hwk] at hj
    rw [hev'.only j (.inr hj)]
    rcases h.fresh j (by have := hev'.next; omega) with h1 | ⟨q, y, ob, mk, hq, e⟩
    · exact .inl h1
    · refine .inr ⟨q, y, ob, mk, ⟨.inl hq.d, ?_, hq.at_, hq.k⟩, e⟩
      have hqm := hq.m
      have : q ≠ m := fun e0 => by subst e0; exact hmD hq.d
      omega

/-- What a reader gives at the stage. -/
theorem Inv.reads (c : Ctx P G ev rnd fn ops fr0 T) (h : Inv P G ops fr0 T b cs0 w0 ρ0 D m ρ a cs w) (hfar : m = ops.size ∨ ∃ x, T[m]? = some x ∧ isHK x.k = true ∧ ¬ D m) {i : Nat} (hr : Ready ops D i) {x : En} (hx : T[i]? = some x) (hk : x.k = .read) :
    readOp P ((x.fr.at ops x.o).env P) x.o (frA fr0 T m).wk = some x.v := by
  have hst := stable_at c.st hx hk
  have hnp : ∀ (q : Nat) (y : En) ch, q < m → T[q]? = some y → y.k ≠ .pan ch := fun q y ch hq hy hyk => h.nopan q y ch hy hyk (h.pre q y hq hy (by rw [hyk]; rfl))
  have hmem : (m, (frA fr0 T m).wk) ∈ stagesOf T 0 (lastFr fr0 T).wk := by
    rcases hfar with e | ⟨y, hy, hyk, _⟩
    · have hall : ∀ (q : Nat) (y : En) ch, T[q]? = some y → y.k ≠ .pan ch := fun q y ch hy => hnp q y ch (by rw [e]; exact c.lt hy) hy
      have := mem_stages_end (T := T) (i := 0) (h := (lastFr fr0 T).wk) hall
      have hfa : frA fr0 T m = lastFr fr0 T := by unfold frA; rw [List.getElem?_eq_none (by rw [c.len, e]; exact Nat.le_refl _)]
      rw [hfa, e, ← c.len]; simpa using this
    · have := mem_stages (T := T) (i := 0) (h := (lastFr fr0 T).wk) hy hyk hnp
      rw [frA_at hy]; simpa using this
  refine readAll_mem hst hmem (may_of fun f hf => ?_)
  obtain ⟨j, y, rfl, hy, hyk⟩ := effs_mem hf
  simp only [Nat.zero_add]
  refine ⟨fun hb => ?_, fun hb => ?_⟩
  · have hD := hr.bef c.reg h.closed (j := j) (by simpa [bef] using hb)
    exact h.effd j y hy hyk hD
  · rcases Nat.lt_or_ge j m with h1 | h1
    · exfalso
      have hHK : isHK y.k = true := by cases e : y.k <;> rw [e] at hyk <;> first | rfl | cases hyk
      have hD := h.pre j y h1 hy hHK
      exact hr.1 (bef_spec h.closed (j := j) (i := i) (by simpa [bef] using hb) hD)
    · exact h1

/-- How a region that draws its order ends: normally, or by a panic of the trace's. -/
def RegEnd (P : Program) (G : Nat) (rnd : Option Nat) (fn : Nat) (ops : Array Oper) (fr0 : Fr) (T : List En) (b : Frame) (cs0 : List Frame) (w0 : World) (ρ0 : Rho) (mach : Machine) (k : List Item) : Prop :=
  (∃ ρ' a' cs' w', Evo G ρ0 fr0.wk w0 ρ' (lastFr fr0 T).wk w' ∧ Fst P ρ' rnd fn (lastFr fr0 T) b a' cs' ∧ CsMod b.kind cs0 cs' ∧ Steps P mach (lone (b.atR a' k) cs' w') ∧ (∀ (q : Nat) (y : En) ch, T[q]? = some y → y.k ≠ .pan ch)) ∨
  (∃ (p : Nat) (x : En) (ch : List PanicEntry) (ρ' : Rho) (a' : Act) (cs' : List Frame) (w' : World) (ch' : List PanicEntry) (k0 : List Item), T[p]? = some x ∧ x.k = .pan ch ∧ Evo G ρ0 fr0.wk w0 ρ' x.fr'.wk w' ∧ Fst P ρ' rnd fn { x.fr' with tm := erase ops.toList x.fr'.tm } b a' cs' ∧ CsMod b.kind cs0 cs' ∧
    ChR ρ' ch ch' ∧ Steps P mach (lone { b.atR a' k0 with mode := .panicking ch' } cs' w'))

theorem RegEnd.of_steps {m1 m2 : Machine} {k : List Item} (h : Steps P m1 m2) (h' : RegEnd P G rnd fn ops fr0 T b cs0 w0 ρ0 m2 k) : RegEnd P G rnd fn ops fr0 T b cs0 w0 ρ0 m1 k := by
  rcases h' with ⟨ρ', a', cs', w', h1, h2, h3, h4, h5⟩ | ⟨p, x, ch, ρ', a', cs', w', ch', k0, h1, h2, h3, h4, h5, h6, h7⟩
  · exact .inl ⟨ρ', a', cs', w', h1, h2, h3, h.trans h4, h5⟩
  · exact .inr ⟨p, x, ch, ρ', a', cs', w', ch', k0, h1, h2, h3, h4, h5, h6, h.trans h7⟩

theorem erase_get : ∀ (l : List Oper) (tm : Tr Value) (u : Nat) (v : Value), (erase l tm).get u = some v → tm.get u = some v ∧ ∀ o ∈ l, o.dst ≠ some u
  | [], tm, u, v, h => ⟨h, fun o ho => by simp at ho⟩
  | o :: l, tm, u, v, h => by
    unfold erase at h
    split at h
    · rename_i d hd
      rw [Tr.get_put] at h
      by_cases e : d = u
      · rw [if_pos e] at h; cases h
      · rw [if_neg e] at h
        obtain ⟨h1, h2⟩ := erase_get l tm u v h
        refine ⟨h1, fun o' ho' => ?_⟩
        rcases List.mem_cons.1 ho' with rfl | ho'
        · rw [hd]; intro e0; cases e0; exact e rfl
        · exact h2 o' ho'
    · rename_i hd
      obtain ⟨h1, h2⟩ := erase_get l tm u v h
      refine ⟨h1, fun o' ho' => ?_⟩
      rcases List.mem_cons.1 ho' with rfl | ho'
      · rw [hd]; simp
      · exact h2 o' ho'

theorem Inv.panics (c : Ctx P G ev rnd fn ops fr0 T) (hB : Base ρ0 rnd fn b) (h : Inv P G ops fr0 T b cs0 w0 ρ0 D m ρ a cs w) (hr : Ready ops D m) {x : En} (hx : T[m]? = some x) {ch : List PanicEntry} (hk : x.k = .pan ch)
    (hf0 : ∀ j, fr0.wk.next ≤ j → j < x.fr'.wk.next → ρ0 j = none) (rest : List Nat) (k : List Item) :
    RegEnd P G rnd fn ops fr0 T b cs0 w0 ρ0 (lone (b.atR a (.inRegion ops (m :: rest) :: k)) cs w) k := by
  have hlt := c.lt hx
  obtain ⟨pan, ho, hE⟩ := c.ent hx
  rw [hk] at hE
  obtain ⟨_, hw, hcl, f, hf, hfr'⟩ := hE
  have hfx := frA_at hx (fr0 := fr0)
  have hnx := c.next hx
  have hwk : x.fr'.wk = f.wk := by rw [hfr']
  have hF := h.fst c hB hr hx
  have hok := effOp_sound (fn := fn) c.hG c.he (chk_some hf).1
  have hrel : Rel G ρ (x.fr.at ops x.o).wk w := by have := h.rel; rw [hfx] at this; exact this
  have hfr : Fresh ρ (x.fr.at ops x.o).wk f.wk := by
    have := h.freshTo c hx (fun ob mk => by rw [hk]; simp) (fun j h1 h2 => hf0 j h1 (by rw [hnx] at h2; exact h2))
    rw [hnx, hwk, hfx] at this; exact this
  obtain ⟨ρ', a', cs', w', hev, hF', hcm, htm, hs⟩ := hok ρ b a cs w ops m rest k ho (wanted_of (h.looks c hr hx) hw) hF hrel hfr
  have hev' : Evo G ρ (frA fr0 T m).wk w ρ' f.wk w' := by rw [hfx]; exact hev
  have hat : a'.tmps = a.tmps := by
    rcases htm with ⟨h1, _⟩ | ⟨_, h1⟩
    · cases h1
    · exact h1
  have hnop : ∀ j y ob mk, ¬ Pend T D m j y ob mk := fun j y ob mk hq => by
    have hqm := hq.m
    have hjm : j ≠ m := fun e0 => by subst e0; exact hr.1 hq.d
    rcases c.ok.get j y hq.at_ with ⟨_, h2⟩ | ⟨q, z, ch2, _, _, _, h2⟩
    · exact h2 m x ch (by omega) hx hk
    · have := h2.2; rw [hq.k] at this; exact absurd this.1 (by simp)
  obtain ⟨ch', k0, hch, hsteps⟩ := hs
  have he1 := h.evo.then hev'
  refine .inr ⟨m, x, ch, ρ', a', cs', w', ch', k0, hx, hk, ?_, ?_, h.csm.trans hcm, hch, hsteps⟩
  · rw [hwk]
    refine ⟨he1.ext, fun i hi => ?_, he1.next, he1.lv, he1.nw, hev'.rel, he1.keep⟩
    rcases hi with hi | hi
    · exact he1.old i hi
    · rw [hev'.only i (.inr hi)]
      rcases h.fresh i (by have := hev'.next; omega) with h1 | ⟨q, y, ob, mk, hq, _⟩
      · exact h1
      · exact absurd hq (hnop _ _ _ _)
  · have hB' := hB.mono he1.ext
    refine ⟨hB'.fn, hB'.rnd, fun u v hv => ?_, ?_, by rw [hfr']; exact hF'.dfs, by rw [hfr']; exact hF'.pc⟩
    · obtain ⟨h1, h2⟩ := erase_get _ _ u v hv
      rw [hfr'] at h1
      simp only at h1
      rw [← hfx] at h1
      rcases frA_tm c m h.mle u v h1 with ⟨i, y, hi, hy, hd, _⟩ | ⟨h3, _⟩
      · exact absurd hd (h2 y.o (by have := c.op hy; rw [← Array.getElem?_toList] at this; exact List.mem_of_getElem? this))
      · obtain ⟨z, h4, h5⟩ := h.t0 u v (fun j y _ hy hd => h2 y.o (by have := c.op hy; rw [← Array.getElem?_toList] at this; exact List.mem_of_getElem? this) hd) h3
        exact ⟨z, by rw [hat]; exact h4, h5.mono hev'.ext⟩
    · have h1 := (c.step hx).1
      have h2 := frA_n c m h.mle
      rw [hfx] at h2
      show x.fr'.n ≤ _
      rw [h1, h2, hat]; exact h.n

end ctx
end Go.Sh
