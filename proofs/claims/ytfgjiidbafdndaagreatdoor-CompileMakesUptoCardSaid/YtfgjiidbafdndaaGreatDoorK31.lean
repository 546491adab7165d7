/- Shadow evaluation, 26: a region that draws its order: all of it. -/
import Derived.Test.YtfgjiidbafdndaaGreatDoorK30
import Derived.RangeFuncRecord
import Derived.ProofKit
namespace Go.Sh
section
variable {P : Program} {ρ : Rho} {G : Nat}
theorem countP_lt {α : Type} {p q : α → Bool} : ∀ {l : List α}, (∀ x ∈ l, q x = true → p x = true) → (∃ x ∈ l, p x = true ∧ q x = false) → l.countP q < l.countP p
 | [], _, h => by obtain ⟨x, hx, _⟩ := h; simp at hx
 | y :: l, h, k => by
  have hle : l.countP q ≤ l.countP p := List.countP_mono_left fun x hx hq => h x (List.mem_cons_of_mem _ hx) hq
  obtain ⟨x, hx, hp, hq⟩ := k
  simp only [List.countP_cons]
  rcases List.mem_cons.1 hx with rfl | hx
  ·simp [hp, hq]; omega
  ·have := countP_lt (l := l) (fun x hx hq => h x (List.mem_cons_of_mem _ hx) hq) ⟨x, hx, hp, hq⟩
   have h1 := h y (List.mem_cons_self ..)
   cases hqy : q y with
   | true => simp [h1 hqy]; omega
   | false => cases p y <;> simp <;> omega
def Dl (listed : Array Bool) : Nat → Prop := fun j => listed.getD j false = true
theorem Dl_set {listed : Array Bool} {i : Nat} (h : i < listed.size) : Dl (listed.setIfInBounds i true) = More (Dl listed) i := by
 funext j
 apply propext
 unfold Dl More
 simp only [Array.getD_eq_getD_getElem?]
 by_cases e : i = j
 ·subst e; simp [h]
 ·rw [Array.getElem?_setIfInBounds_ne e]
  constructor
  ·exact .inl
  ·rintro (h1 | h1)
   ·exact h1
   ·exact absurd h1.symm e
theorem Evo.from_draw {ρ' : Rho} {σ σ' : SW} {w w1 w' : World} (h : Evo G ρ σ w1 ρ' σ' w') (ho : w1.os = w.os) (ht : w1.tape = w.tape) (hu : w1.output = w.output) (hh : w1.heap = w.heap) : Evo G ρ σ w ρ' σ' w' :=
 ⟨h.ext, h.only, h.next, h.lv, fun i o b c hg hn hρ => by rw [← hh]; exact h.nw i o b c hg hn hρ, h.rel,
   ⟨h.keep.os.trans ho, h.keep.tape.trans ht, h.keep.output.trans hu, by rw [← hh]; exact h.keep.size, fun b hb hn => by rw [← hh]; exact h.keep.block b (by rw [hh]; exact hb) hn⟩⟩
section ctx
variable {ev : Ev} {rnd : Option Nat} {fn : Nat} {ops : Array Oper} {fr0 : Fr} {T : List En} {b : Frame} {cs0 cs : List Frame} {w0 w : World} {ρ0 : Rho} {D : Nat → Prop} {m : Nat} {a : Act}
structure Base (ρ0 : Rho) (rnd : Option Nat) (fn : Nat) (b : Frame) : Prop where
 fn : b.fn = fn
 rnd : match rnd with | none => b.roundOf = none | some l => ∃ b' c, ρ0 l = some (b', c) ∧ b.roundOf = some b'
theorem Base.mono {ρ0 ρ : Rho} (he : Ext ρ0 ρ) (h : Base ρ0 rnd fn b) : Base ρ rnd fn b :=
 ⟨h.fn, by have := h.rnd; cases rnd with
   | none => exact this
   | some l => obtain ⟨b', c, h1, h2⟩ := this; exact ⟨b', c, he _ _ h1, h2⟩⟩
theorem Inv.fst (c : Ctx P G ev rnd fn ops fr0 T) (hB : Base ρ0 rnd fn b) (h : Inv P G ops fr0 T b cs0 w0 ρ0 D m ρ a cs w) (hr : Ready ops D m) {x : En} (hx : T[m]? = some x) : Fst P ρ rnd fn (x.fr.at ops x.o) b a cs := by
 have hB' := hB.mono h.evo.ext
 have hfx := frA_at hx (fr0 := fr0)
 have hn := frA_n c m h.mle
 rw [hfx] at hn
 have hd := h.dfs
 have hp := h.pc
 rw [hfx] at hd hp
 exact ⟨hB'.fn, hB'.rnd, h.looks c hr hx, by show x.fr.n ≤ _; rw [hn]; exact h.n, hd, hp⟩
theorem Inv.freshTo (c : Ctx P G ev rnd fn ops fr0 T) (h : Inv P G ops fr0 T b cs0 w0 ρ0 D m ρ a cs w) {x : En} (hx : T[m]? = some x) (hk : ∀ ob mk, x.k ≠ .alloc ob mk)
  (hf0 : ∀ j, fr0.wk.next ≤ j → j < (frA fr0 T (m + 1)).wk.next → ρ0 j = none) : Fresh ρ (frA fr0 T m).wk (frA fr0 T (m + 1)).wk := by
 intro j h1 h2
 have hlt := c.lt hx
 rcases h.fresh j h1 with h3 | ⟨q, y, ob, mk, hq, e⟩
 ·rw [h3]
  have := frA_next c (i := 0) (j := m) (by omega) (by omega)
  rw [c.ok.first] at this
  exact hf0 j (by omega) h2
 ·exfalso
  have hqm := hq.m
  have hqn : q ≠ m := fun e0 => by subst e0; have := hq.at_; rw [hx] at this; cases this; exact hk _ _ hq.k
  have := frA_next c (i := m + 1) (j := q) (by omega) (by have := c.lt hq.at_; omega)
  rw [frA_at hq.at_] at this
  omega
theorem Inv.eff (c : Ctx P G ev rnd fn ops fr0 T) (hB : Base ρ0 rnd fn b) (h : Inv P G ops fr0 T b cs0 w0 ρ0 D m ρ a cs w) (hr : Ready ops D m) {x : En} (hx : T[m]? = some x) (hk : x.k = .eff)
  (hf0 : ∀ j, fr0.wk.next ≤ j → j < (frA fr0 T ops.size).wk.next → ρ0 j = none) (rest : List Nat) (k : List Item) :
  ∃ ρ' a' cs' w', Inv P G ops fr0 T b cs0 w0 ρ0 (More D m) (m + 1) ρ' a' cs' w' ∧ Steps P (lone (b.atR a (.inRegion ops (m :: rest) :: k)) cs w) (lone (b.atR a' (.inRegion ops rest :: k)) cs' w') := by
 have hlt := c.lt hx
 obtain ⟨pan, ho, hE⟩ := c.ent hx
 rw [hk] at hE
 obtain ⟨_, hw, hcl, f, hf, hval, hput⟩ := hE
 have hfx := frA_at hx (fr0 := fr0)
 have hnx := c.next hx
 have pp := put_parts hput
 have hwk : (frA fr0 T (m + 1)).wk = f.wk := by rw [hnx, pp.2.1]
 have hF := h.fst c hB hr hx
 have hok := effOp_sound (fn := fn) c.hG c.he (chk_some hf).1
 have hrel : Rel G ρ (x.fr.at ops x.o).wk w := by have := h.rel; rw [hfx] at this; exact this
 have hfr : Fresh ρ (x.fr.at ops x.o).wk f.wk := by
  have := h.freshTo c hx (fun ob mk => by rw [hk]; simp) (fun j h1 h2 => hf0 j h1 (by have := frA_next c (i := m + 1) (j := ops.size) (by omega) (Nat.le_refl _); omega))
  rw [hwk, hfx] at this; exact this
 obtain ⟨ρ', a', cs', w', hev, hF', hcm, htm, hs⟩ := hok ρ b a cs w ops m rest k ho (wanted_of (h.looks c hr hx) hw) hF hrel hfr
 have hev' : Evo G ρ (frA fr0 T m).wk w ρ' f.wk w' := by rw [hfx]; exact hev
 have hmD : ¬ D m := hr.1
 obtain ⟨v', hat⟩ : ∃ v', a'.tmps = (a.put x.o.dst v').tmps := by
  rcases htm with ⟨_, v', h1⟩ | ⟨h1, _⟩
  ·exact ⟨v', h1⟩
  ·exact absurd rfl h1
 have hvv : ∀ d, x.o.dst = some d → d < a.tmps.size ∧ VR ρ' x.v v' := fun d hd => by
  have h1 := h.dst_lt c hx (by rw [hk]; simp) (fun ch => by rw [hk]; simp) hd
  refine ⟨h1, ?_⟩
  obtain ⟨u, h2, h3⟩ := hF'.tm d _ (hval d hd)
  rw [hat, put_tmps, if_pos ⟨hd, h1⟩] at h2
  cases h2; exact h3
 obtain ⟨t1, t0, n⟩ := h.tm_more c hr hx hev'.ext hat hvv
 have hpd : ∀ j y ob mk, Pend T (More D m) (m + 1) j y ob mk → Pend T D m j y ob mk := fun j y ob mk hq =>
  ⟨hq.d.resolve_right (by have := hq.m; omega), by have := hq.m; omega, hq.at_, hq.k⟩
 have hsm : x.fr'.defers = f.defers ∧ x.fr'.pc = f.pc := ⟨pp.1.defers, pp.1.pc⟩
 refine ⟨ρ', a', cs', w', ⟨More.closed h.closed hr, fun j hj => ?_, fun j y ch hy hyk hj => ?_, fun j y hy hyk hj => ?_, fun j y hy hyk hj => ?_, by omega, fun j y hj hy hyk => ?_, by rw [hwk]; exact hev'.rel, t1, t0, n,
  by rw [hnx, hsm.1]; exact hF'.dfs, by rw [hnx, hsm.2]; exact hF'.pc, h.csm.trans hcm, fun j y ob mk hq => ?_, fun j j' x1 x2 o1 o2 m1 m2 bb p1 p2 q1 q2 => ?_, fun j hj => ?_, by rw [hwk]; exact h.evo.then hev'⟩, hs⟩
 ·rcases hj with hj | rfl
  ·exact h.lt j hj
  ·exact hlt
 ·rcases hj with hj | rfl
  ·exact h.nopan j y ch hy hyk hj
  ·rw [hx] at hy; cases hy; rw [hk] at hyk; cases hyk
 ·rcases hj with hj | rfl
  ·exact h.noblk j y hy hyk hj
  ·rw [hx] at hy; cases hy; rw [hk] at hyk; cases hyk
 ·rcases hj with hj | rfl
  ·have := h.effd j y hy hyk hj; omega
  ·exact Nat.lt_succ_self _
 ·by_cases e : j = m
  ·exact .inr e
  ·exact .inl (h.pre j y (by omega) hy hyk)
 ·obtain ⟨bj, obj, h1, h2, h3, h4, h5⟩ := h.pend j y ob mk (hpd _ _ _ _ hq)
  have hbj := heap_lt h2
  refine ⟨bj, obj, hev'.ext _ _ h1, ?_, h3.mono hev'.ext, fun i o c1 hi => ?_, h5⟩
  ·rw [hev'.keep.block bj hbj (fun i o c1 _ hi => h4 i o c1 hi)]; exact h2
  ·rw [hwk] at hi
   intro e
   by_cases hlt' : i < (frA fr0 T m).wk.next
   ·obtain ⟨p, hp⟩ := hev'.lv i o hi hlt'
    rw [hev'.only i (.inl hlt')] at e
    exact h4 i p c1 hp e
   ·rcases hev'.nw i o bj c1 hi (by omega) e with h6 | ⟨q, p, d, _, hp, hd⟩
    ·omega
    ·exact h4 q p d hp hd
 ·obtain ⟨bj, obj, h1, _⟩ := h.pend j x1 o1 m1 (hpd _ _ _ _ p1)
  obtain ⟨bj', obj', h1', _⟩ := h.pend j' x2 o2 m2 (hpd _ _ _ _ p2)
  rw [hev'.ext _ _ h1] at q1; cases q1
  rw [hev'.ext _ _ h1'] at q2; cases q2
  exact h.pdis j j' x1 x2 o1 o2 m1 m2 bb (hpd _ _ _ _ p1) (hpd _ _ _ _ p2) h1 h1'
 ·rw [hwk] at hj
  rw [hev'.only j (.inr hj)]
  rcases h.fresh j (by have := hev'.next; omega) with h1 | ⟨q, y, ob, mk, hq, e⟩
  ·exact .inl h1
  ·refine .inr ⟨q, y, ob, mk, ⟨.inl hq.d, ?_, hq.at_, hq.k⟩, e⟩
   have hqm := hq.m
   have : q ≠ m := fun e0 => by subst e0; exact hmD hq.d
   omega
theorem Inv.reads (c : Ctx P G ev rnd fn ops fr0 T) (h : Inv P G ops fr0 T b cs0 w0 ρ0 D m ρ a cs w) (hfar : m = ops.size ∨ ∃ x, T[m]? = some x ∧ isHK x.k = true ∧ ¬ D m) {i : Nat} (hr : Ready ops D i) {x : En} (hx : T[i]? = some x) (hk : x.k = .read) :
  readOp P ((x.fr.at ops x.o).env P) x.o (frA fr0 T m).wk = some x.v := by
 have hst := stable_at c.st hx hk
 have hnp : ∀ (q : Nat) (y : En) ch, q < m → T[q]? = some y → y.k ≠ .pan ch := fun q y ch hq hy hyk => h.nopan q y ch hy hyk (h.pre q y hq hy (by rw [hyk]; rfl))
 have hmem : (m, (frA fr0 T m).wk) ∈ stagesOf T 0 (lastFr fr0 T).wk := by
  rcases hfar with e | ⟨y, hy, hyk, _⟩
  ·have hall : ∀ (q : Nat) (y : En) ch, T[q]? = some y → y.k ≠ .pan ch := fun q y ch hy => hnp q y ch (by rw [e]; exact c.lt hy) hy
   have := mem_stages_end (T := T) (i := 0) (h := (lastFr fr0 T).wk) hall
   have hfa : frA fr0 T m = lastFr fr0 T := by unfold frA; rw [List.getElem?_eq_none (by rw [c.len, e]; exact Nat.le_refl _)]
   rw [hfa, e, ← c.len]; simpa using this
  ·have := mem_stages (T := T) (i := 0) (h := (lastFr fr0 T).wk) hy hyk hnp
   rw [frA_at hy]; simpa using this
 refine readAll_mem hst hmem (may_of fun f hf => ?_)
 obtain ⟨j, y, rfl, hy, hyk⟩ := effs_mem hf
 simp only [Nat.zero_add]
 refine ⟨fun hb => ?_, fun hb => ?_⟩
 ·have hD := hr.bef c.reg h.closed (j := j) (by simpa [bef] using hb)
  exact h.effd j y hy hyk hD
 ·rcases Nat.lt_or_ge j m with h1 | h1
  ·exfalso
   have hHK : isHK y.k = true := by cases e : y.k <;> rw [e] at hyk <;> first | rfl | cases hyk
   have hD := h.pre j y h1 hy hHK
   exact hr.1 (bef_spec h.closed (j := j) (i := i) (by simpa [bef] using hb) hD)
  ·exact h1
def RegEnd (P : Program) (G : Nat) (rnd : Option Nat) (fn : Nat) (ops : Array Oper) (fr0 : Fr) (T : List En) (b : Frame) (cs0 : List Frame) (w0 : World) (ρ0 : Rho) (mach : Machine) (k : List Item) : Prop :=
 (∃ ρ' a' cs' w', Evo G ρ0 fr0.wk w0 ρ' (lastFr fr0 T).wk w' ∧ Fst P ρ' rnd fn (lastFr fr0 T) b a' cs' ∧ CsMod b.kind cs0 cs' ∧ Steps P mach (lone (b.atR a' k) cs' w') ∧ (∀ (q : Nat) (y : En) ch, T[q]? = some y → y.k ≠ .pan ch)) ∨
 (∃ (p : Nat) (x : En) (ch : List PanicEntry) (ρ' : Rho) (a' : Act) (cs' : List Frame) (w' : World) (ch' : List PanicEntry) (k0 : List Item), T[p]? = some x ∧ x.k = .pan ch ∧ Evo G ρ0 fr0.wk w0 ρ' x.fr'.wk w' ∧ Fst P ρ' rnd fn { x.fr' with tm := erase ops.toList x.fr'.tm } b a' cs' ∧ CsMod b.kind cs0 cs' ∧
   ChR ρ' ch ch' ∧ Steps P mach (lone { b.atR a' k0 with mode := .panicking ch' } cs' w'))
theorem RegEnd.of_steps {m1 m2 : Machine} {k : List Item} (h : Steps P m1 m2) (h' : RegEnd P G rnd fn ops fr0 T b cs0 w0 ρ0 m2 k) : RegEnd P G rnd fn ops fr0 T b cs0 w0 ρ0 m1 k := by
 rcases h' with ⟨ρ', a', cs', w', h1, h2, h3, h4, h5⟩ | ⟨p, x, ch, ρ', a', cs', w', ch', k0, h1, h2, h3, h4, h5, h6, h7⟩
 ·exact .inl ⟨ρ', a', cs', w', h1, h2, h3, h.trans h4, h5⟩
 ·exact .inr ⟨p, x, ch, ρ', a', cs', w', ch', k0, h1, h2, h3, h4, h5, h6, h.trans h7⟩
theorem erase_get : ∀ (l : List Oper) (tm : Tr Value) (u : Nat) (v : Value), (erase l tm).get u = some v → tm.get u = some v ∧ ∀ o ∈ l, o.dst ≠ some u
 | [], tm, u, v, h => ⟨h, fun o ho => by simp at ho⟩
 | o :: l, tm, u, v, h => by
  unfold erase at h
  split at h
  ·rename_i d hd
   rw [Tr.get_put] at h
   by_cases e : d = u
   ·rw [if_pos e] at h; cases h
   ·rw [if_neg e] at h
    obtain ⟨h1, h2⟩ := erase_get l tm u v h
    refine ⟨h1, fun o' ho' => ?_⟩
    rcases List.mem_cons.1 ho' with rfl | ho'
    ·rw [hd]; intro e0; cases e0; exact e rfl
    ·exact h2 o' ho'
  ·rename_i hd
   obtain ⟨h1, h2⟩ := erase_get l tm u v h
   refine ⟨h1, fun o' ho' => ?_⟩
   rcases List.mem_cons.1 ho' with rfl | ho'
   ·rw [hd]; simp
   ·exact h2 o' ho'
theorem Inv.panics (c : Ctx P G ev rnd fn ops fr0 T) (hB : Base ρ0 rnd fn b) (h : Inv P G ops fr0 T b cs0 w0 ρ0 D m ρ a cs w) (hr : Ready ops D m) {x : En} (hx : T[m]? = some x) {ch : List PanicEntry} (hk : x.k = .pan ch)
  (hf0 : ∀ j, fr0.wk.next ≤ j → j < x.fr'.wk.next → ρ0 j = none) (rest : List Nat) (k : List Item) :
  RegEnd P G rnd fn ops fr0 T b cs0 w0 ρ0 (lone (b.atR a (.inRegion ops (m :: rest) :: k)) cs w) k := by
 have hlt := c.lt hx
 obtain ⟨pan, ho, hE⟩ := c.ent hx
 rw [hk] at hE
 obtain ⟨_, hw, hcl, f, hf, hfr'⟩ := hE
 have hfx := frA_at hx (fr0 := fr0)
 have hnx := c.next hx
 have hwk : x.fr'.wk = f.wk := by rw [hfr']
 have hF := h.fst c hB hr hx
 have hok := effOp_sound (fn := fn) c.hG c.he (chk_some hf).1
 have hrel : Rel G ρ (x.fr.at ops x.o).wk w := by have := h.rel; rw [hfx] at this; exact this
 have hfr : Fresh ρ (x.fr.at ops x.o).wk f.wk := by
  have := h.freshTo c hx (fun ob mk => by rw [hk]; simp) (fun j h1 h2 => hf0 j h1 (by rw [hnx] at h2; exact h2))
  rw [hnx, hwk, hfx] at this; exact this
 obtain ⟨ρ', a', cs', w', hev, hF', hcm, htm, hs⟩ := hok ρ b a cs w ops m rest k ho (wanted_of (h.looks c hr hx) hw) hF hrel hfr
 have hev' : Evo G ρ (frA fr0 T m).wk w ρ' f.wk w' := by rw [hfx]; exact hev
 have hat : a'.tmps = a.tmps := by
  rcases htm with ⟨h1, _⟩ | ⟨_, h1⟩
  ·cases h1
  ·exact h1
 have hnop : ∀ j y ob mk, ¬ Pend T D m j y ob mk := fun j y ob mk hq => by
  have hqm := hq.m
  have hjm : j ≠ m := fun e0 => by subst e0; exact hr.1 hq.d
  rcases c.ok.get j y hq.at_ with ⟨_, h2⟩ | ⟨q, z, ch2, _, _, _, h2⟩
  ·exact h2 m x ch (by omega) hx hk
  ·have := h2.2; rw [hq.k] at this; exact absurd this.1 (by simp)
 obtain ⟨ch', k0, hch, hsteps⟩ := hs
 have he1 := h.evo.then hev'
 refine .inr ⟨m, x, ch, ρ', a', cs', w', ch', k0, hx, hk, ?_, ?_, h.csm.trans hcm, hch, hsteps⟩
 ·rw [hwk]
  refine ⟨he1.ext, fun i hi => ?_, he1.next, he1.lv, he1.nw, hev'.rel, he1.keep⟩
  rcases hi with hi | hi
  ·exact he1.old i hi
  ·rw [hev'.only i (.inr hi)]
   rcases h.fresh i (by have := hev'.next; omega) with h1 | ⟨q, y, ob, mk, hq, _⟩
   ·exact h1
   ·exact absurd hq (hnop _ _ _ _)
 ·have hB' := hB.mono he1.ext
  refine ⟨hB'.fn, hB'.rnd, fun u v hv => ?_, ?_, by rw [hfr']; exact hF'.dfs, by rw [hfr']; exact hF'.pc⟩
  ·obtain ⟨h1, h2⟩ := erase_get _ _ u v hv
   rw [hfr'] at h1
   simp only at h1
   rw [← hfx] at h1
   rcases frA_tm c m h.mle u v h1 with ⟨i, y, hi, hy, hd, _⟩ | ⟨h3, _⟩
   ·exact absurd hd (h2 y.o (by have := c.op hy; rw [← Array.getElem?_toList] at this; exact List.mem_of_getElem? this))
   ·obtain ⟨z, h4, h5⟩ := h.t0 u v (fun j y _ hy hd => h2 y.o (by have := c.op hy; rw [← Array.getElem?_toList] at this; exact List.mem_of_getElem? this) hd) h3
    exact ⟨z, by rw [hat]; exact h4, h5.mono hev'.ext⟩
  ·have h1 := (c.step hx).1
   have h2 := frA_n c m h.mle
   rw [hfx] at h2
   show x.fr'.n ≤ _
   rw [h1, h2, hat]; exact h.n
end ctx
end
section
variable {P : Program} {ρ : Rho} {G : Nat}
section ctx
variable {ev : Ev} {rnd : Option Nat} {fn : Nat} {ops : Array Oper} {fr0 : Fr} {T : List En} {b : Frame} {cs0 cs : List Frame} {w0 w : World} {ρ0 : Rho} {D : Nat → Prop} {m : Nat} {a : Act}
theorem Ctx.pan_uniq (c : Ctx P G ev rnd fn ops fr0 T) {p q : Nat} {x y : En} {ch ch' : List PanicEntry} (hx : T[p]? = some x) (hk : x.k = .pan ch) (hy : T[q]? = some y) (hk' : y.k = .pan ch') : p = q := by
 have key : ∀ {p q : Nat} {x y : En} {ch ch' : List PanicEntry}, T[p]? = some x → x.k = .pan ch → T[q]? = some y → y.k = .pan ch' → ¬ p < q := fun {p q x y ch ch'} hx hk hy hk' hlt => by
  rcases c.ok.get q y hy with ⟨_, h2⟩ | ⟨r, z, ch2, _, _, _, h2⟩
  ·exact h2 p x ch hlt hx hk
  ·have := h2.2; rw [hk'] at this; exact absurd this.1 (by simp)
 have h1 := key hx hk hy hk'
 have h2 := key hy hk' hx hk
 omega
theorem Ctx.after_pan (c : Ctx P G ev rnd fn ops fr0 T) {p : Nat} {x : En} {ch : List PanicEntry} (hx : T[p]? = some x) (hk : x.k = .pan ch) : ∀ j, p < j → j ≤ ops.size → (frA fr0 T j).wk = x.fr'.wk
 | 0, h, _ => by omega
 | j + 1, h, hj => by
  by_cases e : j = p
  ·subst e; rw [c.next hx]
  ·have ih := c.after_pan hx hk j (by omega) (by omega)
   obtain ⟨y, hy⟩ := c.at_ (show j < ops.size by omega)
   have hnk : isHK y.k = false := by
    rcases c.ok.get j y hy with ⟨_, h2⟩ | ⟨r, z, ch2, _, _, _, h2⟩
    ·exact absurd hk (h2 p x ch (by omega) hx)
    ·have := h2.2
     cases e2 : y.k <;> rw [e2] at this <;> first | rfl | exact absurd this.1 (by simp)
   rw [c.next hy, (c.step hy).2.1 hnk, ← frA_at hy (fr0 := fr0), ih]
theorem region_run (c : Ctx P G ev rnd fn ops fr0 T) (hB : Base ρ0 rnd fn b) (hf0 : ∀ j, fr0.wk.next ≤ j → j < (frA fr0 T ops.size).wk.next → ρ0 j = none) (k : List Item) :
  ∀ (fuel t : Nat) (listed : Array Bool) {m : Nat} {ρ : Rho} {a : Act} {cs : List Frame} {w : World}, listed.size = ops.size → Inv P G ops fr0 T b cs0 w0 ρ0 (Dl listed) m ρ a cs w →
   (List.range ops.size).countP (fun j => !listed.getD j false) ≤ fuel →
   RegEnd P G rnd fn ops fr0 T b cs0 w0 ρ0 (lone (b.atR a (.inRegion ops (Region.linearise.go .any ops fuel t listed []) :: k)) cs w) k := by
 have done : ∀ {listed : Array Bool} {m : Nat} {ρ : Rho} {a : Act} {cs : List Frame} {w : World}, Inv P G ops fr0 T b cs0 w0 ρ0 (Dl listed) m ρ a cs w → (∀ j, j < ops.size → Dl listed j) →
   RegEnd P G rnd fn ops fr0 T b cs0 w0 ρ0 (lone (b.atR a (.inRegion ops [] :: k)) cs w) k := by
  intro listed m ρ a cs w h hall
  obtain ⟨m', h', hm'⟩ := h.far c _ (Nat.le_refl _)
  have em : m' = ops.size := by
   rcases hm' with e | ⟨x, hx, _, hn⟩
   ·exact e
   ·exact absurd (hall m' (c.lt hx)) hn
  subst em
  have hfl : frA fr0 T ops.size = lastFr fr0 T := by unfold frA; rw [List.getElem?_eq_none (by rw [c.len]; exact Nat.le_refl _)]
  have hnop : ∀ j y ob mk, ¬ Pend T (Dl listed) ops.size j y ob mk := fun j y ob mk hq => by have := c.lt hq.at_; have := hq.m; omega
  refine .inl ⟨ρ, a, cs, w, ?_, ?_, h'.csm, Steps.one stepR_region_end, fun q y ch hy hyk => h'.nopan q y ch hy hyk (hall q (c.lt hy))⟩
  ·have e := h'.evo
   rw [hfl] at e
   refine ⟨e.ext, fun i hi => ?_, e.next, e.lv, e.nw, by have := h'.rel; rw [hfl] at this; exact this, e.keep⟩
   rcases hi with hi | hi
   ·exact e.old i hi
   ·rcases h'.fresh i (by rw [hfl]; exact hi) with h1 | ⟨q, y, ob, mk, hq, _⟩
    ·exact h1
    ·exact absurd hq (hnop _ _ _ _)
  ·have hB' := hB.mono h'.evo.ext
   refine ⟨hB'.fn, hB'.rnd, fun u v hv => ?_, ?_, by have := h'.dfs; rw [hfl] at this; exact this, by have := h'.pc; rw [hfl] at this; exact this⟩
   ·rw [← hfl] at hv
    rcases frA_tm c ops.size (Nat.le_refl _) u v hv with ⟨i, y, hi, hy, hd, hyv, _, _⟩ | ⟨h1, h2⟩
    ·obtain ⟨z, h3, h4⟩ := h'.t1 i y u (hall i hi) hy hd
     exact ⟨z, h3, by rw [← hyv]; exact h4⟩
    ·refine h'.t0 u v (fun j y hD hy hd => ?_) h1
     rcases h2 j y (c.lt hy) hy hd with hk | ⟨ch, hk⟩
     ·exact h'.noblk j y hy hk hD
     ·exact h'.nopan j y ch hy hk hD
   ·have := frA_n c ops.size (Nat.le_refl _)
    rw [hfl] at this
    rw [this]; exact h'.n
 intro fuel
 induction fuel with
 | zero =>
  intro t listed m ρ a cs w hsz h hcount
  simp only [Region.linearise.go, List.reverse_nil]
  refine done h fun j hj => ?_
  have h0 : (List.range ops.size).countP (fun j => !listed.getD j false) = 0 := by omega
  rw [List.countP_eq_zero] at h0
  have := h0 j (by simpa using hj)
  simpa [Dl] using this
 | succ fuel ih =>
  intro t listed m ρ a cs w hsz h hcount
  simp only [Region.linearise.go]
  change RegEnd P G rnd fn ops fr0 T b cs0 w0 ρ0 (lone (b.atR a (.inRegion ops (match (Region.ready .any ops listed)[t % (Region.ready .any ops listed).length]? with
   | some i => Region.linearise.go .any ops fuel (t / (Region.ready .any ops listed).length) (listed.setIfInBounds i true) [i]
   | none => [].reverse) :: k)) cs w) k
  cases hi : (Region.ready .any ops listed)[t % (Region.ready .any ops listed).length]? with
  | none =>
   have hnil : Region.ready .any ops listed = [] := by
    cases hr : Region.ready .any ops listed with
    | nil => rfl
    | cons x xs =>
     rw [hr] at hi
     have hlt : t % (x :: xs).length < (x :: xs).length := Nat.mod_lt _ (by simp)
     simp at hi
     simp at hlt
     omega
   simp only [List.reverse_nil]
   refine done h fun j => ?_
   induction j using Nat.strongRecOn with
   | _ j ihj =>
    intro hj
    refine Classical.byContradiction fun hn => ?_
    have hjl : listed.getD j true = false := by
     have : j < listed.size := by omega
     simp only [Dl, Array.getD_eq_getD_getElem?, Array.getElem?_eq_getElem this, Option.getD_some] at hn
     simp only [Array.getD_eq_getD_getElem?, Array.getElem?_eq_getElem this, Option.getD_some]
     simpa using hn
    have ho : ops[j]? = some ops[j] := by simp [hj]
    have : j ∈ Region.ready .any ops listed := mem_ready.2 ⟨hjl, ops[j], ho, fun e he hb => ihj e.on (c.reg.back j _ ho e he hb) (by have := c.reg.back j _ ho e he hb; omega)⟩
    rw [hnil] at this
    simp at this
  | some i =>
   simp only
   rw [linearise_go_acc, List.reverse_singleton, List.singleton_append]
   obtain ⟨hil, o, ho, hall⟩ := mem_ready.1 (List.mem_of_getElem? hi)
   have hilt : i < ops.size := (Array.getElem?_eq_some_iff.1 ho).1
   have hnD : ¬ Dl listed i := by
    have : i < listed.size := by omega
    simp only [Dl, Array.getD_eq_getD_getElem?, Array.getElem?_eq_getElem this, Option.getD_some]
    simp only [Array.getD_eq_getD_getElem?, Array.getElem?_eq_getElem this, Option.getD_some] at hil
    simp [hil]
   have hr : Ready ops (Dl listed) i := ⟨hnD, o, ho, hall⟩
   obtain ⟨x, hx⟩ := c.at_ hilt
   have hxo := c.op hx
   obtain ⟨m', h', hfar⟩ := h.far c _ (Nat.le_refl _)
   have hset := Dl_set (listed := listed) (i := i) (by omega)
   have hsz' : (listed.setIfInBounds i true).size = ops.size := by simp [hsz]
   have hcount' : (List.range ops.size).countP (fun j => !(listed.setIfInBounds i true).getD j false) ≤ fuel := by
    have hlt := countP_lt (l := List.range ops.size) (p := fun j => !listed.getD j false) (q := fun j => !(listed.setIfInBounds i true).getD j false) (fun j _ hq => by
     by_cases e : i = j
     ·subst e
      have : (listed.setIfInBounds i true).getD i false = true := by simp [show i < listed.size by omega]
      rw [this] at hq; simp at hq
     ·rw [getD_set_ne false e] at hq; exact hq) ⟨i, by simpa using hilt, by simpa [Dl] using hnD, by simp [show i < listed.size by omega]⟩
    omega
   have val : ∀ {v' : Value}, isHK x.k = false → VR ρ x.v v' → step P (lone (b.atR a (.inRegion ops (i :: Region.linearise.go .any ops fuel (t / (Region.ready .any ops listed).length) (listed.setIfInBounds i true) []) :: k)) cs w) =
     .next (lone (b.atR (a.put x.o.dst v') (.inRegion ops (Region.linearise.go .any ops fuel (t / (Region.ready .any ops listed).length) (listed.setIfInBounds i true) []) :: k)) cs w) →
     RegEnd P G rnd fn ops fr0 T b cs0 w0 ρ0 (lone (b.atR a (.inRegion ops (i :: Region.linearise.go .any ops fuel (t / (Region.ready .any ops listed).length) (listed.setIfInBounds i true) []) :: k)) cs w) k := by
    intro v' hk hv hst
    have h2 := h'.val c hr hx hk hv
    rw [← hset] at h2
    exact RegEnd.of_steps (Steps.one hst) (ih _ _ hsz' h2 hcount')
   have hlooks := h'.looks c hr hx
   have hstage : ∀ (hh : isHK x.k = true) (he : isEK x.k = true), i = m' := fun hh he => by
    have hmi : m' ≤ i := by
     rcases Nat.lt_or_ge i m' with h1 | h1
     ·exact absurd (h'.pre i x h1 hx hh) hnD
     ·exact h1
    rcases Nat.lt_or_ge m' i with h1 | h1
    ·exfalso
     rcases hfar with e | ⟨y, hy, hyk, hyn⟩
     ·omega
     ·obtain ⟨_, hEy⟩ := c.ent hy
      obtain ⟨_, hEx⟩ := c.ent hx
      rcases c.reg.ord m' i _ _ h1 (c.op hy) hxo with h2 | ⟨_, _, h2⟩
      ·exact hyn (hr.bef c.reg h'.closed h2)
      ·exact h2 ⟨ent_heap hEy hyk, ent_eff hEx he⟩
    ·omega
   obtain ⟨pan, _, hE⟩ := c.ent hx
   cases hk : x.k with
   | off =>
    rw [hk] at hE
    obtain ⟨hw, hv, _⟩ := hE
    have hw' := wanted_of hlooks hw
    have hsk := stepR_op_skip (P := P) (b := b) (a := a) (k := k) (cs := cs) (w := w) (ops := ops) (i := i) (rest := Region.linearise.go .any ops fuel (t / (Region.ready .any ops listed).length) (listed.setIfInBounds i true) []) (by rw [hxo]; simpa using hw')
    rw [hxo] at hsk
    simp only [Option.bind_some] at hsk
    exact val (by rw [hk]; rfl) (by rw [hv]; exact undefR ρ) hsk
   | pure =>
    rw [hk] at hE
    obtain ⟨hw, hc, hv, _⟩ := hE
    obtain ⟨v', h1, h2⟩ := pureOp_sound (env_of hlooks h'.rel c.hG) hv
    exact val (by rw [hk]; rfl) h1 (step_value hxo (wanted_of hlooks hw) (cls_defer (by rw [hc]; simp)) (h2 w))
   | read =>
    rw [hk] at hE
    obtain ⟨hw, hc, _⟩ := hE
    have hrd := h'.reads c hfar hr hx hk
    obtain ⟨v', h1, h2⟩ := readOp_sound (env_of hlooks h'.rel c.hG) h'.rel hrd
    exact val (by rw [hk]; rfl) h1 (step_value hxo (wanted_of hlooks hw) (cls_defer (by rw [hc]; simp)) h2)
   | alloc ob mk =>
    rw [hk] at hE
    obtain ⟨_, hw, hc, hal, _⟩ := hE
    obtain ⟨ob', mk', h1, h2, h3⟩ := allocOp_sound (env_of hlooks h'.rel c.hG) hal
    have h4 := h'.alloc c hr hx hk hf0 h1 h3
    rw [← hset] at h4
    exact RegEnd.of_steps (Steps.one (step_value hxo (wanted_of hlooks hw) (cls_defer (by rw [hc]; simp)) (h2 w))) (ih _ _ hsz' h4 hcount')
   | eff =>
    have e := hstage (by rw [hk]; rfl) (by rw [hk]; rfl)
    subst e
    obtain ⟨ρ', a', cs', w', h4, hs⟩ := h'.eff c hB hr hx hk hf0 (Region.linearise.go .any ops fuel (t / (Region.ready .any ops listed).length) (listed.setIfInBounds i true) []) k
    rw [← hset] at h4
    exact RegEnd.of_steps hs (ih _ _ hsz' h4 hcount')
   | pan ch =>
    have e := hstage (by rw [hk]; rfl) (by rw [hk]; rfl)
    subst e
    refine h'.panics c hB hr hx hk (fun j h1 h2 => hf0 j h1 ?_) _ k
    have := c.after_pan hx hk ops.size hilt (Nat.le_refl _)
    rw [this]; exact h2
   | blk => exact absurd hk (h'.noblk_ready c hr hx)
end ctx
theorem panOf_none : ∀ {T : List En}, panOf T = none → ∀ (q : Nat) (y : En) ch, T[q]? = some y → y.k ≠ .pan ch
 | [], _, q, y, ch, h => by simp at h
 | x :: T, h, q, y, ch, hy => by
  unfold panOf at h
  cases hk : x.k <;> rw [hk] at h <;> first
   | (cases h; done)
   | (cases q with
      | zero => simp at hy; subst hy; rw [hk]; simp
      | succ q => exact panOf_none h q y ch (by simpa using hy))
theorem panOf_some : ∀ {T : List En} {ch : List PanicEntry} {f : Fr}, panOf T = some (ch, f) → ∃ (p : Nat) (x : En), T[p]? = some x ∧ x.k = .pan ch ∧ x.fr' = f
 | [], ch, f, h => by simp [panOf] at h
 | x :: T, ch, f, h => by
  unfold panOf at h
  cases hk : x.k <;> rw [hk] at h <;> first
   | (cases h; exact ⟨0, x, rfl, hk, rfl⟩)
   | (obtain ⟨p, y, h1, h2, h3⟩ := panOf_some h
      exact ⟨p + 1, y, by simpa using h1, h2, h3⟩)
theorem drawnS_sound (hG : G = P.globals.size) (hmix : P.follows .mixedOrders = true) {ev : Ev} (he : EvSound P G ev) {rnd : Option Nat} {fn : Nat} {id : Nat} {ops : Array Oper} {fr fr' : Fr} {e : Ex} (h : drawnS P ev rnd ops fr = some (e, fr')) :
  CodeOk P G rnd fn (.region id ops true) fr e fr' := by
 intro ρ b a cs w k hf hr hfresh
 unfold drawnS at h
 obtain ⟨hreg, h⟩ := cond_some h
 split at h
 ·rename_i T hT
  obtain ⟨hst, h⟩ := cond_some h
  obtain ⟨hlen, hok⟩ := trace_spec ops.toList 0 fr fr.wk none (fun j => by simp) hT
  have c : Ctx P G ev rnd fn ops fr T := ⟨hG, he, regOk_spec hreg, hok, by simpa using hlen, hst⟩
  have hB : Base ρ rnd fn b := ⟨hf.fn, hf.rnd⟩
  have hfl : frA fr T ops.size = lastFr fr T := by unfold frA; rw [List.getElem?_eq_none (by rw [c.len]; exact Nat.le_refl _)]
  have hfw : (frA fr T ops.size).wk = fr'.wk := by
   split at h
   ·cases h; rw [hfl]
   ·rename_i ch f hp
    cases h
    obtain ⟨p, x, h1, h2, h3⟩ := panOf_some hp
    rw [c.after_pan h1 h2 ops.size (c.lt h1) (Nat.le_refl _), h3]
  have hdraw := stepR_region_draw (P := P) (b := b) (a := a) (k := k) (cs := cs) (w := w) (id := id) (ops := ops)
  have hinv : Inv P G ops fr T b cs { w with drawn := w.drawn + 1 } ρ (Dl (Array.replicate ops.size false)) 0 ρ a cs { w with drawn := w.drawn + 1 } := by
   have hD : ∀ j, ¬ Dl (Array.replicate ops.size false) j := fun j hj => by
    unfold Dl at hj
    simp [Array.getElem?_replicate] at hj
    split at hj <;> simp_all
   have h0 := c.ok.first
   have hr' : Rel G ρ fr.wk { w with drawn := w.drawn + 1 } := hr.world fun _ _ _ _ _ _ => rfl
   exact ⟨fun j _ _ hj => absurd hj (hD j), fun j hj => absurd hj (hD j), fun j _ _ _ _ => hD j, fun j _ _ _ => hD j, fun j _ _ _ hj => absurd hj (hD j), Nat.zero_le _, fun j _ hj => by omega, by rw [h0]; exact hr',
    fun j _ _ hj => absurd hj (hD j), fun u v _ hv => hf.tm u v hv, hf.n, by rw [h0]; exact hf.dfs, by rw [h0]; exact hf.pc, CsMod.refl _ _, fun j _ _ _ hq => absurd hq.d (hD j), fun j _ _ _ _ _ _ _ _ hq => absurd hq.d (hD j), fun i _ => .inl rfl,
    by rw [h0]; exact ⟨Ext.refl ρ, fun _ _ => rfl, Nat.le_refl _, fun i o hg _ => ⟨o, hg⟩, fun i o b1 c1 hg hn _ => by have := hr.get_lt hg; omega, ⟨rfl, rfl, rfl, Nat.le_refl _, fun _ _ _ => rfl⟩⟩⟩
  have hcount : (List.range ops.size).countP (fun j => !(Array.replicate ops.size false).getD j false) ≤ ops.size := by
   have := List.countP_le_length (p := fun j => !(Array.replicate ops.size false).getD j false) (l := List.range ops.size)
   simpa using this
  have hrun := region_run c hB (fun j h1 h2 => hfresh j h1 (by rw [← hfw]; exact h2)) k ops.size (w.tape w.drawn (.order b.fn id)) (Array.replicate ops.size false) (by simp) hinv hcount
  have hsched : Region.schedule (P.follows .mixedOrders) ops (w.tape w.drawn (.order b.fn id)) = Region.linearise.go .any ops ops.size (w.tape w.drawn (.order b.fn id)) (Array.replicate ops.size false) [] := by
   simp only [Region.schedule, hmix, Bool.true_or, if_true]
   rfl
  rw [← hsched] at hrun
  have hrun' := RegEnd.of_steps (Steps.one hdraw) hrun
  rcases hrun' with ⟨ρ', a', cs', w', h1, h2, h3, h4, h5⟩ | ⟨p, x, ch, ρ', a', cs', w', ch', k0, h1, h2, h3, h4, h5, h6, h7⟩
  ·split at h
   ·cases h
    exact ⟨ρ', a', cs', w', h1.from_draw rfl rfl rfl rfl, h2, h3, h4⟩
   ·rename_i ch f hp
    obtain ⟨p, x, q1, q2, _⟩ := panOf_some hp
    exact absurd q2 (h5 p x ch q1)
  ·split at h
   ·rename_i hp
    exact absurd h2 (panOf_none hp p x ch h1)
   ·rename_i ch2 f hp
    cases h
    obtain ⟨q, y, q1, q2, q3⟩ := panOf_some hp
    have := c.pan_uniq h1 h2 q1 q2
    subst this
    rw [h1] at q1; cases q1
    rw [h2] at q2; cases q2
    subst q3
    exact ⟨ρ', a', cs', w', h3.from_draw rfl rfl rfl rfl, h4, h5, ch', k0, h6, h7⟩
 ·cases h
end
section
variable {P : Program} {ρ : Rho} {G : Nat}
section moves
variable {b : Frame} {a : Act} {k : List Item} {cs : List Frame} {w : World}
theorem stepR_scope {c : Code} : step P (lone (b.atR a (.code (.scope c) :: k)) cs w) = .next (lone (b.atR a (.code c :: .inScope c :: k)) cs w) :=
 step_lone_go (by simp [stepG, stepG.exec, Frame.atR])
theorem stepR_inScope {c : Code} : step P (lone (b.atR a (.inScope c :: k)) cs w) = .next (lone (b.atR a k) cs w) :=
 step_lone_go (by simp [stepG, stepG.exec, Frame.atR])
end moves
theorem lone_frame {fr fr' : Frame} {cs cs' : List Frame} {w w' : World} (h : lone fr cs w = lone fr' cs' w') : fr = fr' := by
 have := congrArg (fun m : Machine => (m.gs[0]?).map (·.frame)) h
 simpa [lone] using this
theorem Steps.skip {m x t : Machine} (h : Steps P m t) (hs : step P m = .next x) (hne : m ≠ t) : Steps P x t := by
 obtain ⟨n, hn⟩ := h
 cases n with
 | zero => simp only [runN] at hn; cases hn; exact absurd rfl hne
 | succ n => simp only [runN, hs] at hn; exact ⟨n, hn⟩
theorem ArrR.swap {m x : Machine} {b b0 : Frame} {k k1 : List Item} {a a0 : Act} {cs cs0 : List Frame} {w w0 : World} {e : Ex} {it : Item} (hm : m = lone (b0.atR a0 (it :: k1)) cs0 w0) (hs : step P m = .next x)
  (h1 : k1.length = k.length) (h2 : ∀ id, it ≠ .code (.exit id)) (h3 : it ≠ .code .ret)
  (h : ArrR P ρ m b k e a cs w) : ArrR P ρ x b k e a cs w := by
 subst hm
 cases e with
 | normal =>
  refine Steps.skip h hs fun e => ?_
  have h4 := congrArg (fun f : Frame => f.todo) (lone_frame e)
  simp only [Frame.atR] at h4
  have := congrArg List.length h4
  simp at this; omega
 | exit id =>
  obtain ⟨k0, hst, hx⟩ := h
  refine ⟨k0, Steps.skip hst hs fun e => ?_, hx⟩
  have h4 := congrArg (fun f : Frame => f.todo) (lone_frame e)
  simp only [Frame.atR] at h4
  injection h4 with h5 _
  exact h2 id h5
 | ret =>
  obtain ⟨k0, hst⟩ := h
  refine ⟨k0, Steps.skip hst hs fun e => ?_⟩
  have h4 := congrArg (fun f : Frame => f.todo) (lone_frame e)
  simp only [Frame.atR] at h4
  injection h4 with h5 _
  exact h3 h5
 | panic ch =>
  obtain ⟨ch', k0, hc, hst⟩ := h
  refine ⟨ch', k0, hc, Steps.skip hst hs fun e => ?_⟩
  have h4 := congrArg (fun f : Frame => f.mode) (lone_frame e)
  simp only [Frame.atR] at h4
  cases h4
theorem bodied_some {g : Nat} (h : bodied P g = true) : ∃ fn, fnAt P g = some fn ∧ fn.body.isSome = true := by
 unfold bodied at h
 split at h
 ·rename_i fn hf; exact ⟨fn, hf, h⟩
 ·cases h
theorem rangeFunc_sound (hG : G = P.globals.size) {ev : Ev} (he : EvSound P G ev) {fn : Nat} {f : Operand} {params : Array Tmp} {assign body : Code} {fr fr' : Fr} {e : Ex}
  (h : codeS P ev none fn (.rangeFunc f params assign body) fr = some (e, fr')) : CodeOk P G none fn (.rangeFunc f params assign body) fr e fr' := by
 intro ρ b a cs w k hf hr hfresh
 simp only [codeS] at h
 split at h
 ·rename_i g x y _ hx
  replace h := cond_some h
  obtain ⟨hbod, h⟩ := h
  obtain ⟨gn, hg1, hg2⟩ := bodied_some hbod
  have hb : b.roundOf = none := hf.rnd
  obtain ⟨x', y', hxe, hX, hY⟩ := (hf.env hr hG f _ hx).func_inv (by simp)
  obtain ⟨m, hm, hnext⟩ : ∃ m, m = fr'.wk.next ∧ fr.wk.next + 2 ≤ m := by
   refine ⟨_, rfl, ?_⟩
   split at h
   ·rename_i σ1 hc
    have := he.callN hc
    simp only at this
    split at h
    ·split at h
     ·cases h
     ·split at h
      ·cases h; exact this
      ·cases h; exact this
      ·cases h; exact this
      ·cases h
    ·cases h
   ·rename_i hc
    cases h
    have := he.callN hc
    exact this
   ·cases h
  have hfn1 : ρ fr.wk.next = none := hfresh _ (Nat.le_refl _) (by omega)
  have hfn2 : ρ (fr.wk.next + 1) = none := hfresh _ (by omega) (by omega)
  have hev1 := evo_push (ob := .dfr) (ob' := .deferred (some [])) (cap := 0) hr hfn1 rfl rfl rfl rfl (w' := w.alloc (.deferred (some []))) rfl
  generalize hρ1 : upd ρ fr.wk.next (w.heap.size, 0) = ρ1 at hev1
  have hd1 : ρ1 fr.wk.next = some (w.heap.size, 0) := by rw [← hρ1]; exact upd_same _ _ _
  have hn1 : ρ1 (fr.wk.push .dfr).next = none := by
   rw [← hρ1, upd_other (by simp [SW.push])]; exact hfn2
  have hsz1 : (w.alloc (.deferred (some []))).heap.size = w.heap.size + 1 := World.size_alloc w _
  have htm1 := hf.tm.mono hev1.ext
  have hev2 := evo_push (w' := (w.alloc (.deferred (some []))).alloc (.loop { state := .ready, pending := none, fn := b.fn, tmps := a.tmps, params := params, assign, body, defers := w.heap.size }))
   (ob := .loop .ready none fn fr.tm fr.n params.toList assign body fr.wk.next) (ob' := .loop { state := .ready, pending := none, fn := b.fn, tmps := a.tmps, params := params, assign, body, defers := w.heap.size }) (cap := 0) hev1.rel hn1
   ⟨rfl, rfl, hf.fn, ⟨htm1.mono (upd_ext hn1), hf.n⟩, rfl, rfl, rfl, 0, upd_ext hn1 _ _ hd1⟩ rfl rfl rfl rfl
  generalize hw2 : (w.alloc (.deferred (some []))).alloc (.loop { state := .ready, pending := none, fn := b.fn, tmps := a.tmps, params := params, assign, body, defers := w.heap.size }) = w2 at hev2
  generalize hρ2 : upd ρ1 (fr.wk.push .dfr).next ((w.alloc (.deferred (some []))).heap.size, 0) = ρ2 at hev2
  have hl2 : ρ2 (fr.wk.next + 1) = some (w.heap.size + 1, 0) := by rw [← hρ2, ← hsz1]; exact upd_same _ _ _
  have hd2 : ρ2 fr.wk.next = some (w.heap.size, 0) := hev2.ext _ _ hd1
  have hev := hev1.trans hev2
  have hent := run_enterLoop_outer (P := P) (w := w) b.fn a.tmps params assign body
  rw [hw2, ← hb] at hent
  have hres : (resolve a.eval (rangeCall f (w.heap.size + 1)) 0).run P w2 = .ok { target := .fn (.func g) y', args := x' ++ #[.func (.yield (w.heap.size + 1)) #[] #[]] } w2 := by
   have hmap : Array.map a.eval #[Operand.const (Value.func (Fn.yield (w.heap.size + 1)) #[] #[])] = #[Value.func (.yield (w.heap.size + 1)) #[] #[]] := by simp [Act.eval]
   simp only [resolve, hxe, Deferred.ofValue, Sem.run_pure, hmap]
  have hinv : (invoke (.fn (.func g) y') (x' ++ #[.func (.yield (w.heap.size + 1)) #[] #[]])).run P w2 = .ok (.enter g ((x' ++ #[.func (.yield (w.heap.size + 1)) #[] #[]]) ++ y')) w2 := by
   simp only [invoke]
   exact callFunc_enter hg1 hg2 _ w2
  have hstep := stepR_rangeFunc (P := P) (k := k) (cs := cs) hent hres hinv
  have hA : LR ρ2 (x.toList ++ [Value.func (.yield (fr.wk.next + 1)) #[] #[]] ++ y.toList) ((x' ++ #[Value.func (.yield (w.heap.size + 1)) #[] #[]]) ++ y').toList := by
   simp only [Array.toList_append]
   exact ((hX.mono hev.ext).append (LR.cons (.yield _ _ _ hl2) (LR.nil ρ2))).append (hY.mono hev.ext)
  have hF : Fst P ρ2 none fn { fr with defers := { target := .collected fr.wk.next, args := #[] } :: fr.defers } b { a with defers := [{ target := .collected w.heap.size, args := #[] }] ++ a.defers } cs :=
   ⟨hf.fn, hf.rnd, hf.tm.mono hev.ext, hf.n, ⟨.inl ⟨_, _, 0, rfl, rfl, hd2⟩, hf.dfs.mono hev.ext⟩, hf.pc.mono hev.ext⟩
  split at h
  ·rename_i v pc1 σ1 hc
   have hn := he.callN hc
   simp only at hn
   split at h
   ·rename_i st pend fn' tm' n' ps' as' bo' d' hgl
    have hwk : fr'.wk = { σ1 with heap := σ1.heap.put (fr.wk.next + 1) (some (.loop .exhausted pend fn' tm' n' ps' as' bo' d')) } ∧ st ≠ .busy := by
     split at h
     ·cases h
     ·rename_i hst
      refine ⟨?_, fun e0 => hst e0⟩
      split at h
      ·cases h; rfl
      ·cases h; rfl
      ·cases h; rfl
      ·cases h
    obtain ⟨ρ3, frl, cs3, w3, hev3, hpc3, hm3, hs3, hlfn, hlk, hld, fnv, hlf, v', hv', hlm, hlr⟩ := he.call hc ρ2 _ .normal (b.atR { a with defers := [{ target := .collected w.heap.size, args := #[] }] ++ a.defers } (.inRangeFunc (w.heap.size + 1) :: k) :: cs) w2 hA (.inl rfl) hev.rel
     (Fresh.second (a := fr.wk) (fun i h1 h2 => hfresh i h1 (by rw [hwk.1]; exact h2)) hev)
    have hcs := hm3.normal
    subst hcs
    obtain ⟨bl, cl, r, hρ3, hwl, hO⟩ := loop_live hev3.rel hgl
    have hl3 := hev3.ext _ _ hl2
    rw [hl3] at hρ3; cases hρ3
    have hO' := hO
    simp only [ObjR] at hO
    have hlv : frl.leaving P w3 (.returned v') := ⟨hlm, hld, hlk, fnv, by rw [hlfn]; exact hlf, hlr⟩
    have hback := step_leave_returned (P := P) (c := b.atR { a with defers := [{ target := .collected w.heap.size, args := #[] }] ++ a.defers } (.inRangeFunc (w.heap.size + 1) :: k)) (cs := cs) hlv
    rw [finish_atR_inRangeFunc] at hback
    have hend := run_endLoop (P := P) hwl (by rw [hO.1]; exact hwk.2)
    have hse := stepR_endRangeFunc (P := P) (b := b) (a := { a with defers := [{ target := .collected w.heap.size, args := #[] }] ++ a.defers }) (k := k) (cs := cs) hend
    have hch := putObj_chg (o' := .loop { r with state := .exhausted }) hwl
    have hevc := evo_chg (ob := .loop .exhausted pend fn' tm' n' ps' as' bo' d') hev3.rel (by have := hr.gn; omega) hgl hl3 hch ⟨rfl, hO.2⟩
    have hall := (hev.trans hev3).trans hevc
    have hsteps := (Steps.head hstep hs3).trans (Steps.head hback (Steps.one hse))
    have hq : ∀ p, r.pending = p → Steps P (lone (b.atR a (.code (.rangeFunc f params assign body) :: k)) cs w) (lone (b.atR { a with defers := [{ target := .collected w.heap.size, args := #[] }] ++ a.defers } ((p.map Item.code).toList ++ k)) cs (w3.putObj (w.heap.size + 1) (.loop { r with state := .exhausted }))) := by
     rintro _ rfl; exact hsteps
    replace hq := hq _ hO.2.1
    have hF' := ((hF.mono hev3.ext).mono hevc.ext).wk { σ1 with heap := σ1.heap.put (fr.wk.next + 1) (some (.loop .exhausted pend fn' tm' n' ps' as' bo' d')) }
    split at h
    ·cases h
    ·split at h
     ·cases h
      exact ⟨ρ3, _, cs, _, hall, hF', CsMod.refl _ _, hq⟩
     ·cases h
      exact ⟨ρ3, _, cs, _, hall, hF', CsMod.refl _ _, k, hq⟩
     ·cases h
      exact ⟨ρ3, _, cs, _, hall, hF', CsMod.refl _ _, k, hq, rfl⟩
     ·cases h
   ·cases h
  ·rename_i ch pc1 σ1 hc
   cases h
   obtain ⟨ρ3, frl, cs3, w3, hev3, hpc3, hm3, hs3, hlfn, hlk, hld, fnv, hlf, ch', hch, hlm⟩ := he.call hc ρ2 _ .normal (b.atR { a with defers := [{ target := .collected w.heap.size, args := #[] }] ++ a.defers } (.inRangeFunc (w.heap.size + 1) :: k) :: cs) w2 hA (.inl rfl) hev.rel
    (Fresh.second (a := fr.wk) hfresh hev)
   have hcs := hm3.normal
   subst hcs
   have hlv : frl.leaving P w3 (.panicked ch') := ⟨hlm, hld, fnv, by rw [hlfn]; exact hlf⟩
   have hback := step_leave_panicked (P := P) (c := b.atR { a with defers := [{ target := .collected w.heap.size, args := #[] }] ++ a.defers } (.inRangeFunc (w.heap.size + 1) :: k)) (cs := cs) hlv
   rw [Frame.raise_atR] at hback
   exact ⟨ρ3, _, cs, w3, hev.trans hev3, (hF.mono hev3.ext).wk σ1, CsMod.refl _ _, ch', _, hch, (Steps.head hstep hs3).trans (Steps.one hback)⟩
  ·cases h
 ·cases h
theorem codeS_sound (hG : G = P.globals.size) (hmix : P.follows .mixedOrders = true) {ev : Ev} (he : EvSound P G ev) {rnd : Option Nat} {fn : Nat} {c : Code} {fr fr' : Fr} {e : Ex}
  (h : codeS P ev rnd fn c fr = some (e, fr')) : CodeOk P G rnd fn c fr e fr' := by
 unfold codeS at h
 split at h
 ·cases h
  intro ρ b a cs w k hf hr _
  exact ⟨ρ, a, cs, w, Evo.refl hr, hf, CsMod.refl _ _, Steps.one stepR_skip⟩
 ·cases h
  intro ρ b a cs w k hf hr _
  exact ⟨ρ, a, cs, w, Evo.refl hr, hf, CsMod.refl _ _, Steps.one stepR_label⟩
 ·rename_i x y
  split at h
  ·rename_i f1 h1
   intro ρ b a cs w k hf hr hfresh
   have n1 := he.codeN h1
   have n2 := he.codeN h
   obtain ⟨ρ1, a1, cs1, w1, ev1, hf1, m1, s1⟩ := he.code h1 ρ b a cs w (.code y :: k) hf hr (hfresh.first n2)
   obtain ⟨ρ2, a2, cs2, w2, ev2, hf2, m2, s2⟩ := he.code h ρ1 b a1 cs1 w1 k hf1 ev1.rel (hfresh.second ev1)
   exact ⟨ρ2, a2, cs2, w2, ev1.trans ev2, hf2, m1.trans m2, ArrR.of_steps (Steps.head stepR_seq s1) s2⟩
  ·rename_i hne
   intro ρ b a cs w k hf hr hfresh
   obtain ⟨ρ1, a1, cs1, w1, ev1, hf1, m1, s1⟩ := he.code h ρ b a cs w (.code y :: k) hf hr hfresh
   exact ⟨ρ1, a1, cs1, w1, ev1, hf1, m1, ArrR.of_steps (Steps.one stepR_seq) (ArrR.pass (fun e0 => hne _ (by rw [h, e0])) rfl s1)⟩
 ·rename_i x c1 c2
  split at h
  ·rename_i hx
   intro ρ b a cs w k hf hr hfresh
   have hv := (hf.env hr hG x _ hx).bool_inv
   obtain ⟨ρ1, a1, cs1, w1, ev1, hf1, m1, s1⟩ := he.code h ρ b a cs w k hf hr hfresh
   exact ⟨ρ1, a1, cs1, w1, ev1, hf1, m1, ArrR.of_steps (Steps.one (stepR_cond hv)) s1⟩
  ·rename_i hx
   intro ρ b a cs w k hf hr hfresh
   have hv := (hf.env hr hG x _ hx).bool_inv
   obtain ⟨ρ1, a1, cs1, w1, ev1, hf1, m1, s1⟩ := he.code h ρ b a cs w k hf hr hfresh
   exact ⟨ρ1, a1, cs1, w1, ev1, hf1, m1, ArrR.of_steps (Steps.one (stepR_cond hv)) s1⟩
  ·cases h
 ·rename_i id body
  split at h
  ·rename_i j f1 h1
   cases h
   intro ρ b a cs w k hf hr hfresh
   obtain ⟨ρ1, a1, cs1, w1, ev1, hf1, m1, k0, s1, hx⟩ := he.code h1 ρ b a cs w (.inBlock id :: k) hf hr hfresh
   refine ⟨ρ1, a1, cs1, w1, ev1, hf1, m1, ?_⟩
   cases hj : Nat.beq j id with
   | true =>
    have hji := Nat.eq_of_beq_eq_true hj
    subst hji
    have hxx : exitTo j k0 = some k := by rw [hx]; simp [exitTo]
    exact (Steps.head stepR_block s1).trans (Steps.one (stepR_exit hxx))
   | false =>
    have hji : id ≠ j := fun e0 => by
     rw [e0] at hj
     have : Nat.beq j j = true := Nat.beq_refl j
     rw [this] at hj; cases hj
    exact ⟨k0, Steps.head stepR_block s1, by rw [hx]; simp [exitTo, hji]⟩
  ·rename_i hne
   intro ρ b a cs w k hf hr hfresh
   obtain ⟨ρ1, a1, cs1, w1, ev1, hf1, m1, s1⟩ := he.code h ρ b a cs w (.inBlock id :: k) hf hr hfresh
   refine ⟨ρ1, a1, cs1, w1, ev1, hf1, m1, ?_⟩
   cases e with
   | normal => exact (Steps.head stepR_block s1).trans (Steps.one stepR_inBlock)
   | exit j => exact absurd h (hne _ _)
   | ret => obtain ⟨k0, s1⟩ := s1; exact ⟨k0, Steps.head stepR_block s1⟩
   | panic ch => obtain ⟨ch', k0, hc, s1⟩ := s1; exact ⟨ch', k0, hc, Steps.head stepR_block s1⟩
 ·rename_i body
  split at h
  ·rename_i f1 h1
   intro ρ b a cs w k hf hr hfresh
   have n1 := he.codeN h1
   have n2 := he.codeN h
   obtain ⟨ρ1, a1, cs1, w1, ev1, hf1, m1, s1⟩ := he.code h1 ρ b a cs w (.inLoop body :: k) hf hr (hfresh.first n2)
   obtain ⟨ρ2, a2, cs2, w2, ev2, hf2, m2, s2⟩ := he.code h ρ1 b a1 cs1 w1 k hf1 ev1.rel (hfresh.second ev1)
   have s3 := ArrR.swap rfl (stepR_loop (P := P)) rfl (by simp) (by simp) s2
   exact ⟨ρ2, a2, cs2, w2, ev1.trans ev2, hf2, m1.trans m2, ArrR.of_steps ((Steps.head stepR_loop s1).trans (Steps.one stepR_inLoop)) s3⟩
  ·rename_i hne
   intro ρ b a cs w k hf hr hfresh
   obtain ⟨ρ1, a1, cs1, w1, ev1, hf1, m1, s1⟩ := he.code h ρ b a cs w (.inLoop body :: k) hf hr hfresh
   refine ⟨ρ1, a1, cs1, w1, ev1, hf1, m1, ArrR.of_steps (Steps.one stepR_loop) ?_⟩
   cases e with
   | normal => exact absurd h (hne _)
   | exit j => obtain ⟨k0, s1, hx⟩ := s1; exact ⟨k0, s1, hx⟩
   | ret => exact s1
   | panic ch => exact s1
 ·rename_i body
  intro ρ b a cs w k hf hr hfresh
  obtain ⟨ρ1, a1, cs1, w1, ev1, hf1, m1, s1⟩ := he.code h ρ b a cs w (.inScope body :: k) hf hr hfresh
  refine ⟨ρ1, a1, cs1, w1, ev1, hf1, m1, ArrR.of_steps (Steps.one stepR_scope) ?_⟩
  cases e with
  | normal => exact Steps.trans s1 (Steps.one stepR_inScope)
  | exit j => obtain ⟨k0, s1, hx⟩ := s1; exact ⟨k0, s1, hx⟩
  | ret => exact s1
  | panic ch => exact s1
 ·cases h
  intro ρ b a cs w k hf hr _
  exact ⟨ρ, a, cs, w, Evo.refl hr, hf, CsMod.refl _ _, k, Steps.refl P _, rfl⟩
 ·cases h
  intro ρ b a cs w k hf hr _
  exact ⟨ρ, a, cs, w, Evo.refl hr, hf, CsMod.refl _ _, k, Steps.refl P _⟩
 ·obtain ⟨ok, _⟩ := opsS_sound hG he (fn := fn) h
  intro ρ b a cs w k hf hr hfresh
  obtain ⟨ρ1, a1, cs1, w1, ev1, hf1, m1, s1⟩ := ok ρ b a cs w k hf hr hfresh
  exact ⟨ρ1, a1, cs1, w1, ev1, hf1, m1, ArrR.of_steps (Steps.one stepR_region) s1⟩
 ·exact drawnS_sound hG hmix he h
 ·rename_i f params assign body
  cases rnd with
  | some l => simp at h
  | none => exact rangeFunc_sound hG he (by simp only [codeS]; exact h)
 ·cases h
end
section
variable {P : Program} {ρ : Rho} {G : Nat}
theorem evo_drop {σ : SW} {w w' : World} (h : Rel G ρ σ w) {i b c : Nat} {o : SObj} {ob' : Obj} (hG : G ≤ i) (hg : σ.heap.get i = some o) (hρ : ρ i = some (b, c)) (hch : Chg1 w w' b ob') :
  Evo G ρ σ w ρ { σ with heap := σ.heap.put i none } w' := by
 have hsub : ∀ j p, (σ.heap.put i none).get j = some p → i ≠ j ∧ σ.heap.get j = some p := fun j p hj => by
  rw [Tr.get_put] at hj
  by_cases e : i = j
  ·rw [if_pos e] at hj; cases hj
  ·rw [if_neg e] at hj; exact ⟨e, hj⟩
 refine ⟨Ext.refl ρ, fun _ _ => rfl, Nat.le_refl _, fun j p hj _ => ⟨p, (hsub j p hj).2⟩, fun j p b' c' hj hn _ => ?_, ⟨fun j p hj => ?_, fun j k p q b1 c1 d1 hj hk => h.inj j k p q b1 c1 d1 (hsub j p hj).2 (hsub k q hk).2, h.glob, h.gn⟩, ⟨hch.os, hch.tape, hch.output, by rw [hch.size]; exact Nat.le_refl _, fun k hk hn => hch.other k fun e => ?_⟩⟩
 ·have := h.get_lt (hsub j p hj).2; omega
 ·obtain ⟨e, hj⟩ := hsub j p hj
  obtain ⟨h1, b2, c2, o2, h2, h3, h4⟩ := h.live j p hj
  exact ⟨h1, b2, c2, o2, h2, by rw [hch.other b2 (fun eb => e (h.inj i j o p b c c2 hg hj hρ (by rw [h2, eb])))]; exact h3, h4⟩
 ·subst e; exact hn i o c hG hg hρ
theorem resultS_sound {fr : Fr} {tmps : Array Value} {w : World} (hr : Rel G ρ fr.wk w) (ht : TmR ρ fr.tm tmps) {x : ResultVar} {v : Value} (h : resultS P fr x = some v) :
  ∃ v', VR ρ v v' ∧ Sem.run P (match x with | .tmp t => pure (tmps.getD t undef) | .cell a t => do loadVar t (← asAddr (tmps.getD a undef))) w = .ok v' w := by
 cases x with
 | tmp t =>
  obtain ⟨v', h1, h2⟩ := ht t v h
  exact ⟨v', h2, by simp [h1]⟩
 | cell a t =>
  simp only [resultS] at h
  split at h
  ·rename_i i off hx
   split at h
   ·rename_i c hc
    obtain ⟨x', h1, h2⟩ := ht a _ hx
    obtain ⟨b, cc, hρ, rfl⟩ := h2.ptr_inv
    obtain ⟨b2, cc2, c', el, hρ2, hw, hl, _⟩ := cells_live hr hc
    rw [hρ] at hρ2; cases hρ2
    obtain ⟨v', h3, h4⟩ := load_sound (P := P) hl hw h
    refine ⟨v', h3, ?_⟩
    simp only [Instr.loadAt, Instr.sureAddr, Sem.run_bind, Sem.run_pure, Result.andThen_ok] at h4
    have hd : tmps.getD a undef = .pointer (some ⟨b, off, none⟩) := by rw [Array.getD_eq_getD_getElem?, h1]; rfl
    simp only [hd, asAddr, Sem.run_bind, Sem.run_pure, Result.andThen_ok]
    exact h4
   ·cases h
  ·cases h
theorem resultsS_sound {fr : Fr} {tmps : Array Value} {w : World} (hr : Rel G ρ fr.wk w) (ht : TmR ρ fr.tm tmps) : ∀ {l : List ResultVar} {vs : List Value}, resultsS P fr l = some vs →
  ∃ vs', LR ρ vs vs' ∧ Sem.run P (l.mapM fun x => (match x with | .tmp t => pure (tmps.getD t undef) | .cell a t => do loadVar t (← asAddr (tmps.getD a undef)) : Sem Value)) w = .ok vs' w
 | [], vs, h => by simp only [resultsS] at h; cases h; exact ⟨[], LR.nil ρ, by simp⟩
 | x :: l, vs, h => by
  simp only [resultsS] at h
  split at h
  ·rename_i v vs1 hv hvs
   cases h
   obtain ⟨v', h1, h2⟩ := resultS_sound (P := P) hr ht hv
   obtain ⟨vs', h3, h4⟩ := resultsS_sound hr ht hvs
   refine ⟨v' :: vs', LR.cons h1 h3, ?_⟩
   simp only [List.mapM_cons, Sem.run_bind, h2, Result.andThen_ok, h4, Sem.run_pure]
  ·cases h
theorem results_sound {fr : Fr} {fn : Func} {tmps : Array Value} {w : World} (hr : Rel G ρ fr.wk w) (ht : TmR ρ fr.tm tmps) {vs : List Value} (h : resultsS P fr fn.results.toList = some vs) {v : Value}
  (hv : (∃ x, vs = [x] ∧ v = x) ∨ ((∀ x, vs ≠ [x]) ∧ v = .tuple ⟨vs⟩)) : ∃ v', VR ρ v v' ∧ (results fn tmps).run P w = .ok v' w := by
 obtain ⟨vs', h1, h2⟩ := resultsS_sound (P := P) hr ht h
 have hm : Sem.run P (fn.results.mapM fun x => (match x with | .tmp t => pure (tmps.getD t undef) | .cell a t => do loadVar t (← asAddr (tmps.getD a undef)) : Sem Value)) w = .ok ⟨vs'⟩ w := by
  rw [Array.mapM_eq_mapM_toList, Sem.run_map, h2]; rfl
 unfold results
 rcases hv with ⟨x, rfl, rfl⟩ | ⟨hne, rfl⟩
 ·obtain ⟨x', r', rfl, hx, hr'⟩ := h1.cons_inv
  have := hr'.nil_inv; subst this
  refine ⟨x', hx, ?_⟩
  rw [Sem.run_bind]
  exact congrArg (fun r : Result (Array Value) => r.andThen (fun vs w => Sem.run P (pure (if h : vs.size = 1 then vs[0] else .tuple vs)) w)) hm
 ·refine ⟨_, VR.of_tuple h1, ?_⟩
  rw [Sem.run_bind]
  refine (congrArg (fun r : Result (Array Value) => r.andThen (fun vs w => Sem.run P (pure (if h : vs.size = 1 then vs[0] else .tuple vs)) w)) hm).trans ?_
  have hl : vs'.length ≠ 1 := by
   rw [← h1.len]
   intro e
   obtain ⟨x, hx⟩ := List.length_eq_one_iff.1 e
   exact hne x hx
  simp [hl]
theorem CsMod.deferred {c0 : Frame} {r cs' : List Frame} (h : CsMod .deferred (c0 :: r) cs') : ∃ m, cs' = { c0 with mode := m } :: r := by
 rcases h with rfl | ⟨_, c1, r1, m, e, rfl⟩
 ·exact ⟨c0.mode, rfl⟩
 ·cases e; exact ⟨m, rfl⟩
theorem dropWhile_goexit : ∀ {l l' : List PanicEntry}, ChR ρ l l' → l.all (fun y => !y.goexit) = true → l'.dropWhile (!·.goexit) = []
 | [], [], _, _ => rfl
 | x :: l, y :: m, h, ha => by
  simp only [List.all_cons, Bool.and_eq_true] at ha
  have := dropWhile_goexit h.2 ha.2
  rw [List.dropWhile_cons, h.1.2.2, ha.1, if_pos rfl, this]
theorem DefsR.nil_inv {m : List Deferred} (h : DefsR ρ [] m) : m = [] := by cases m with | nil => rfl | cons _ _ => exact h.elim
theorem DefsR.cons_inv {d : Deferred} {l m : List Deferred} (h : DefsR ρ (d :: l) m) : ∃ d' m', m = d' :: m' ∧ DefR ρ d d' ∧ DefsR ρ l m' := by
 cases m with | nil => exact h.elim | cons d' m' => exact ⟨d', m', rfl, h.1, h.2⟩
theorem unwS_sound (hG : G = P.globals.size) {ev : Ev} (he : EvSound P G ev) {f : Nat} {ch : Option (List PanicEntry)} {fr : Fr} {r : CR} (h : unwS P ev f ch fr = some r) : UnwOk P G f ch fr r := by
 intro ρ b a cs w todo mode hf hmode hr hfresh
 have hmr : mode ≠ .run := by
  cases ch with
  | none => rw [hmode]; simp
  | some c => obtain ⟨c', _, rfl⟩ := hmode; simp
 unfold unwS at h
 split at h
 ·
  rename_i d args ds hd
  split at h
  ·rename_i hg
   obtain ⟨hGd, h⟩ := cond_some h
   have hdf := hf.dfs
   rw [hd] at hdf
   obtain ⟨d', ds', hds', hD, hds⟩ := hdf.cons_inv
   rcases hD with ⟨r0, bl, c, h1, h2, h3⟩ | ⟨_, _, h1, _⟩
   ·cases h1
    obtain ⟨_, b2, c2, o', h4, h5, h6⟩ := hr.live _ _ hg
    rw [h3] at h4; cases h4
    cases o' with
    | deferred dl =>
     simp only [ObjR] at h6
     subst h6
     have htk := run_takeDeferred (P := P) h5
     have hst := step_collected (P := P) (fr := { b.atR a todo with mode := mode }) (cs := cs) hmr hds' h2 htk
     have hev := evo_drop hr (by rw [hG]; exact Nat.le_of_ble_eq_true hGd) hg h3 (putObj_chg (o' := .deferred none) h5)
     have hF : Fst P ρ none f { fr with defers := ds, wk := { fr.wk with heap := fr.wk.heap.put d none } } b { a with defers := [] ++ ds' } cs :=
      ⟨hf.fn, hf.rnd, hf.tm, hf.n, hds, hf.pc⟩
     obtain ⟨ρ', frl, cs', w', k1, k2, k3, k4, k5⟩ := he.unw h ρ b { a with defers := [] ++ ds' } cs _ todo mode hF hmode hev.rel hfresh
     exact ⟨ρ', frl, cs', w', hev.trans k1, k2, k3, Steps.head hst k4, k5⟩
    | _ => simp only [ObjR] at h6
   ·cases h1
  ·cases h
 ·
  rename_i g cap args ds hd
  obtain ⟨hbod, h⟩ := cond_some h
  obtain ⟨gn, hg1, hg2⟩ := bodied_some hbod
  have hdf := hf.dfs
  rw [hd] at hdf
  obtain ⟨d', ds', hds', hD, hds⟩ := hdf.cons_inv
  rcases hD with ⟨_, _, _, h1, _⟩ | ⟨g', cap', h1, h2, hA⟩
  ·cases h1
  ·injection h1 with h1a h1b
   injection h1a with h1c
   subst h1c
   simp only at hA
   split at h
   ·rename_i v pc σ hc
    have hinv : (invoke d'.target d'.args).run P w = .ok (.enter g (d'.args ++ cap')) w := by
     rw [h2]; simp only [invoke]; exact callFunc_enter hg1 hg2 _ w
    have hst := step_defer (P := P) (fr := { b.atR a todo with mode := mode }) (cs := cs) hmr hds' h2 hinv
    have hpc0 : PcR ρ ch .deferred ({ { b.atR a todo with mode := mode } with defers := ds' } :: cs) := by
     cases ch with
     | none => exact .inr ⟨rfl, _, _, rfl, hmode⟩
     | some c => obtain ⟨c', hcc, hm⟩ := hmode; exact ⟨rfl, _, _, c', rfl, hm, hcc⟩
    have key : ∀ ch1, σ.next ≤ r.w.next → ev.unw f ch1 { fr with defers := ds, wk := σ } = some r → (∀ ρ' cs1 m, PcR ρ' pc .deferred cs1 → (∃ c0 rr, cs1 = c0 :: rr ∧ c0.mode = m) →
      (match ch1 with | none => settle m = .returning | some c => ∃ c', ChR ρ' c c' ∧ settle m = .panicking c')) →
      ∃ ρ' frl cs' w', Evo G ρ fr.wk w ρ' r.w w' ∧ PcR ρ' r.pc b.kind cs' ∧ CsMod b.kind cs cs' ∧ Steps P (lone { b.atR a todo with mode := mode } cs w) (lone frl cs' w') ∧ Leav P ρ' f b.kind r.e frl w' := by
     intro ch1 hle hu hset
     obtain ⟨ρ1, frl, cs1, w1, e1, p1, m1, s1, hlfn, hlk, hld, fnv, hlf, v', hv', hlm, hlr⟩ := he.call hc ρ (d'.args ++ cap') .deferred _ w (by simpa using hA) hpc0 hr (hfresh.first hle)
     obtain ⟨m, rfl⟩ := m1.deferred
     have hgo : frl.going P w1 (.returned v') := ⟨hlm, hld, fnv, by rw [hlfn]; exact hlf, hlr⟩
     have hback := step_going_returned (P := P) (c := { { { b.atR a todo with mode := mode } with defers := ds' } with mode := m }) (cs := cs) hlk hgo
     have hF : Fst P ρ1 none f { fr with defers := ds, wk := σ } b { a with defers := ds' } cs :=
      ⟨hf.fn, hf.rnd, hf.tm.mono e1.ext, hf.n, hds.mono e1.ext, hf.pc.mono e1.ext⟩
     obtain ⟨ρ2, frl2, cs2, w2, k1, k2, k3, k4, k5⟩ := he.unw hu ρ1 b { a with defers := ds' } cs w1 todo (settle m) hF (hset ρ1 _ m p1 ⟨_, _, rfl, rfl⟩) e1.rel (hfresh.second e1)
     exact ⟨ρ2, frl2, cs2, w2, e1.trans k1, k2, k3, (Steps.head hst s1).trans (Steps.head hback k4), k5⟩
    have hcn := he.callN hc
    split at h
    ·refine key none (he.unwN h) h fun ρ' cs1 m hp hm => ?_
     obtain ⟨c0, rr, rfl, rfl⟩ := hm
     rcases hp with hp | ⟨_, c1, r1, e1, hp⟩
     ·cases hp
     ·cases e1; simp only [hp, settle]
    ·rename_i x older _
     cases hxr : x.recovered with
     | true =>
      rw [hxr] at h
      simp only [cond_true] at h
      obtain ⟨hall, h⟩ := cond_some h
      refine key none (he.unwN h) h fun ρ' cs1 m hp hm => ?_
      obtain ⟨c0, rr, rfl, rfl⟩ := hm
      obtain ⟨_, c1, r1, ch', e1, hp, hch⟩ := hp
      cases e1
      cases ch' with
      | nil => exact hch.elim
      | cons y ys =>
       obtain ⟨yv, yr, yg⟩ := y
       obtain ⟨⟨_, h3, _⟩, h4⟩ := hch
       simp only at h3
       rw [hxr] at h3; subst h3
       simp only [hp, settle, dropWhile_goexit h4 hall]
     | false =>
      rw [hxr] at h
      simp only [cond_false] at h
      refine key (some (x :: older)) (he.unwN h) h fun ρ' cs1 m hp hm => ?_
      obtain ⟨c0, rr, rfl, rfl⟩ := hm
      obtain ⟨_, c1, r1, ch', e1, hp, hch⟩ := hp
      cases e1
      cases ch' with
      | nil => exact hch.elim
      | cons y ys =>
       obtain ⟨yv, yr, yg⟩ := y
       have h3 := hch.1.2.1
       simp only at h3
       rw [hxr] at h3; subst h3
       exact ⟨_, hch, by simp only [hp, settle]⟩
    ·cases h
   ·cases h
 ·cases h
 ·
  rename_i hd
  have hdf := hf.dfs
  rw [hd] at hdf
  have hnil := hdf.nil_inv
  split at h
  ·cases h
  ·rename_i fnv hfv
   have hfv' := (fnAt_some hfv).1
   split at h
   ·rename_i c hc
    cases h
    obtain ⟨c', hcc, rfl⟩ := hmode
    exact ⟨ρ, _, cs, w, Evo.refl hr, hf.pc, CsMod.refl _ _, Steps.refl P _, hf.fn, rfl, hnil, fnv, hfv', c', hcc, rfl⟩
   ·split at h
    ·rename_i v hv
     cases h
     obtain ⟨v', q1, q2⟩ := results_sound hr hf.tm hv (.inl ⟨v, rfl, rfl⟩)
     exact ⟨ρ, _, cs, w, Evo.refl hr, hf.pc, CsMod.refl _ _, Steps.refl P _, hf.fn, rfl, hnil, fnv, hfv', v', q1, hmode, q2⟩
    ·rename_i vs hne hv
     cases h
     obtain ⟨v', q1, q2⟩ := results_sound hr hf.tm hv (.inr ⟨fun x e => hne x e, rfl⟩)
     exact ⟨ρ, _, cs, w, Evo.refl hr, hf.pc, CsMod.refl _ _, Steps.refl P _, hf.fn, rfl, hnil, fnv, hfv', v', q1, hmode, q2⟩
    ·cases h
theorem tmR_args {args : List Value} {args' : Array Value} (h : LR ρ args args'.toList) (n : Nat) : TmR ρ (Tr.ofList args) (args' ++ Array.replicate n undef) := by
 intro t v hv
 rw [Tr.get_ofList] at hv
 obtain ⟨v', h1, h2⟩ := h.get hv
 have h1' : args'[t]? = some v' := by simpa using h1
 have hlt := (Array.getElem?_eq_some_iff.1 h1').1
 exact ⟨v', by rw [Array.getElem?_append_left hlt]; exact h1', h2⟩
theorem callS_sound {ev : Ev} (he : EvSound P G ev) {f : Nat} {args : List Value} {pc : Option (List PanicEntry)} {σ : SW} {r : CR} (h : callS P ev f args pc σ = some r) : CallOk P G f args pc σ r := by
 unfold callS at h
 split at h
 ·rename_i fn hfn
  have hfn' := (fnAt_some hfn).1
  split at h
  ·rename_i c hbody
   have key : ∀ (e : Ex) (fr : Fr) (ch : Option (List PanicEntry)), ev.code none f c { tm := Tr.ofList args, n := fn.ntmps, defers := [], pc := pc, wk := σ } = some (e, fr) → ev.unw f ch fr = some r →
     ((e = .normal ∧ ch = none) ∨ (e = .ret ∧ ch = none) ∨ ∃ x, e = .panic x ∧ ch = some x) → CallOk P G f args pc σ r := by
    intro e fr ch hcode hunw hcase ρ args' kind cs w hA hpc hr hfresh
    obtain ⟨b, hb⟩ : ∃ b : Frame, b = { (default : Frame) with fn := f, kind := kind, roundOf := none } := ⟨_, rfl⟩
    have hbk : b.kind = kind := by subst hb; rfl
    have hbr : b.roundOf = none := by subst hb; rfl
    have hbf : b.fn = f := by subst hb; rfl
    have henter : Frame.enter P f args' kind = b.atR { tmps := args' ++ Array.replicate (fn.ntmps - args'.size) undef, defers := [] } [.code c] := by
     subst hb; simp [Frame.enter, Frame.atR, hfn', hbody]
    have hF : Fst P ρ none f { tm := Tr.ofList args, n := fn.ntmps, defers := [], pc := pc, wk := σ } b { tmps := args' ++ Array.replicate (fn.ntmps - args'.size) undef, defers := [] } cs :=
     ⟨hbf, hbr, tmR_args hA _, by simp; omega, trivial, by rw [hbk]; exact hpc⟩
    obtain ⟨ρ1, a1, cs1, w1, e1, F1, m1, s1⟩ := he.code hcode ρ b _ cs w [] hF hr (hfresh.first (he.unwN hunw))
    rw [← henter] at s1
    rw [hbk] at m1
    have done : ∀ todo mode, (match ch with | none => mode = .returning | some c => ∃ c', ChR ρ1 c c' ∧ mode = .panicking c') →
      Steps P (lone (Frame.enter P f args' kind) cs w) (lone { b.atR a1 todo with mode := mode } cs1 w1) →
      ∃ ρ' frl cs' w', Evo G ρ σ w ρ' r.w w' ∧ PcR ρ' r.pc kind cs' ∧ CsMod kind cs cs' ∧ Steps P (lone (Frame.enter P f args' kind) cs w) (lone frl cs' w') ∧ Leav P ρ' f kind r.e frl w' := by
     intro todo mode hm hs
     obtain ⟨ρ2, frl, cs2, w2, e2, p2, m2, s2, l2⟩ := he.unw hunw ρ1 b a1 cs1 w1 todo mode F1 hm e1.rel (hfresh.second e1)
     rw [hbk] at p2 m2 l2
     exact ⟨ρ2, frl, cs2, w2, e1.trans e2, p2, m1.trans m2, hs.trans s2, l2⟩
    rcases hcase with ⟨rfl, rfl⟩ | ⟨rfl, rfl⟩ | ⟨x, rfl, rfl⟩
    ·exact done [] .returning rfl (s1.trans (Steps.one (stepR_end hbr)))
    ·obtain ⟨k0, s1⟩ := s1
     exact done _ .returning rfl (s1.trans (Steps.one (stepR_ret hbr)))
    ·obtain ⟨ch', k0, hcc, s1⟩ := s1
     exact done k0 (.panicking ch') ⟨ch', hcc, rfl⟩ s1
   split at h
   ·rename_i fr hcode
    exact key _ _ _ hcode h (.inl ⟨rfl, rfl⟩)
   ·rename_i fr hcode
    exact key _ _ _ hcode h (.inr (.inl ⟨rfl, rfl⟩))
   ·rename_i x fr hcode
    exact key _ _ _ hcode h (.inr (.inr ⟨x, rfl, rfl⟩))
   ·cases h
  ·cases h
 ·cases h
theorem chkC_some {n : Nat} {r : Option CR} {x : CR} (h : chkC n r = some x) : r = some x ∧ n ≤ x.w.next := by
 unfold chkC at h
 split at h
 ·obtain ⟨hb, h⟩ := cond_some h
  cases h
  exact ⟨rfl, Nat.le_of_ble_eq_true hb⟩
 ·cases h
theorem stepE_sound (hG : G = P.globals.size) (hmix : P.follows .mixedOrders = true) {ev : Ev} (he : EvSound P G ev) : EvSound P G (stepE P ev) where
 code h := codeS_sound hG hmix he (chk_some h).1
 call h := callS_sound he (chkC_some h).1
 unw h := unwS_sound hG he (chkC_some h).1
 codeN h := (chk_some h).2
 callN h := (chkC_some h).2
 unwN h := (chkC_some h).2
theorem ev_sound (hG : G = P.globals.size) (hmix : P.follows .mixedOrders = true) : ∀ n : Nat, EvSound P G (ev P n)
 | 0 => ⟨fun h => by simp [ev, evB] at h, fun h => by simp [ev, evB] at h, fun h => by simp [ev, evB] at h, fun h => by simp [ev, evB] at h, fun h => by simp [ev, evB] at h, fun h => by simp [ev, evB] at h⟩
 | n + 1 => stepE_sound hG hmix (ev_sound hG hmix n)
def rho0 (G : Nat) : Rho := fun g => if g < G then some (g, 0) else none
theorem rel0 (G : Nat) (w : World) : Rel G (rho0 G) ⟨.lf, G⟩ w :=
 ⟨fun i o h => by simp [Tr.get] at h, fun i j o p b c d h => by simp [Tr.get] at h, fun g hg => ⟨0, by simp [rho0, hg]⟩, Nat.le_refl _⟩
end
end Go.Sh
namespace Go.Sh
open Go.RowKit
section
variable {P : Program} {ρ : Rho} {G : Nat}
theorem cell_one {w : World} {r : Reach} {base : Nat} {t : TypeId} {v : Value} (h : Cell.okWide P w r base t v) : v.oneCell' = true := by
 cases v with
 | agg cs => exfalso; unfold Cell.okWide Cell.ok at h; cases hu : P.underlying t with
  | none => rw [hu] at h; exact h
  | some d => rw [hu] at h; cases d <;> exact h
 | tuple cs => exfalso; unfold Cell.okWide Cell.ok at h; cases hu : P.underlying t with
  | none => rw [hu] at h; exact h
  | some d => rw [hu] at h; cases d <;> exact h
 | _ => rfl
def anyOf (P : Program) (t : TypeId) : Value :=
 match P.underlying t with
 | some (.struct _) | some (.array _ _) => .agg ⟨List.replicate (P.cellsOf t) (.chan none)⟩
 | _ => .chan none
theorem any_cells {l : List Value} (h : ∀ (j : Nat) v, l[j]? = some v → v.oneCell' = true) : LR ρ (List.replicate l.length (.chan none)) l := by
 refine ⟨by simp, fun j v v' hv hv' => ?_⟩
 rw [List.getElem?_replicate] at hv
 split at hv
 ·cases hv; exact .any _ (h j v' hv')
 ·cases hv
theorem anyOf_R {w : World} {r : Reach} {base : Nat} {t : TypeId} {v : Value} (h : Value.okWide P w r base t v) : VR ρ (anyOf P t) v := by
 unfold Value.okWide at h
 unfold anyOf
 split at h
 ·rename_i fs hu
  simp only [hu]
  obtain ⟨cs, rfl, hsz, ts, _, _, hall⟩ := h
  have := any_cells (ρ := ρ) (l := cs.toList) (fun j v hv => by
   obtain ⟨u, _, hc⟩ := hall j v (by simpa using hv)
   exact cell_one hc)
  rw [show cs.toList.length = P.cellsOf t by simpa using hsz] at this
  exact VR.of_agg this
 ·rename_i n e hu
  simp only [hu]
  obtain ⟨cs, rfl, hsz, ts, _, _, hall⟩ := h
  have := any_cells (ρ := ρ) (l := cs.toList) (fun j v hv => by
   obtain ⟨u, _, hc⟩ := hall j v (by simpa using hv)
   exact cell_one hc)
  rw [show cs.toList.length = P.cellsOf t by simpa using hsz] at this
  exact VR.of_agg this
 ·rename_i h1 h2
  have : (match P.underlying t with
   | some (.struct _) | some (.array _ _) => Value.agg ⟨List.replicate (P.cellsOf t) (.chan none)⟩
   | _ => .chan none) = .chan none := by
   split
   ·rename_i fs hu; exact absurd hu (h1 fs)
   ·rename_i n e hu; exact absurd hu (h2 n e)
   ·rfl
  rw [this]
  exact .any _ (cell_one h)
theorem any_args {w : World} {r : Reach} {base : Nat} {ps : Array TypeId} {args : Array Value} (hl : args.size = ps.size) (h : ∀ (j : Nat) t v, ps[j]? = some t → args[j]? = some v → Value.okWide P w r base t v) :
  LR ρ (ps.toList.map (anyOf P)) args.toList := by
 refine ⟨by simp [hl], fun j v v' hv hv' => ?_⟩
 rw [List.getElem?_map, Option.map_eq_some_iff] at hv
 obtain ⟨t, ht, rfl⟩ := hv
 exact anyOf_R (h j t v' (by simpa using ht) (by simpa using hv'))
def gives (P : Program) (n f : Nat) (args : List Value) (v : Value) : Bool :=
 match (ev P n).call f args none ⟨.lf, P.globals.size⟩ with
 | some ⟨.ret u, _, _⟩ => veq u v && plain v
 | _ => false
theorem gives_calls {n f : Nat} {args : List Value} {args' : Array Value} {v : Value} (hmix : P.follows .mixedOrders = true) (h : gives P n f args v = true) (hA : LR (rho0 P.globals.size) args args'.toList) (w : World) :
  Calls P f args' w fun e w' => e = .returned v ∧ Below w.heap.size w w' := by
 intro cs
 unfold gives at h
 split at h
 ·rename_i u pc σ hc
  rw [Bool.and_eq_true] at h
  obtain ⟨h, hv⟩ := h
  have huv : u = v := veq_eq h
  subst huv
  obtain ⟨ρ', frl, cs', w', h1, h2, h3, h4, hlfn, hlk, hld, fnv, hlf, v', hv', hlm, hlr⟩ := (ev_sound (P := P) rfl hmix n).call hc (rho0 P.globals.size) args' .normal cs w hA (.inl rfl) (rel0 _ w)
   (fun i hi _ => by simp only at hi; simp only [rho0]; rw [if_neg (by omega)])
  have hcs := h3.normal
  subst hcs
  have := plain_eq hv hv'
  subst this
  exact ⟨.returned v', w', frl, ⟨rfl, h1.keep.os, h1.keep.tape, h1.keep.output, h1.keep.size, fun b hb => h1.keep.block b hb fun i o c _ hg => by simp [Tr.get] at hg⟩, h4, hlfn, hlm, hld, hlk, fnv, by rw [hlfn]; exact hlf, hlr⟩
 ·cases h
end
end Go.Sh
