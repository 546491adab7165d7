/- Shadow evaluation, 23: a region that draws its order: what holds while it is carried out. -/
import Derived.Test.YtjipcihcldngbaaGreatDoorShV
namespace Go.Sh
variable {P : Program} {ρ : Rho} {G : Nat}

def isHK : Kd → Bool
  | .alloc _ _ | .eff | .pan _ => true
  | _ => false
def isEK : Kd → Bool
  | .eff | .pan _ => true
  | _ => false

theorem ent_heap {ev : Ev} {rnd : Option Nat} {ops : Array Oper} {i : Nat} {pan : Option Nat} {x : En} (h : EntOk P ev rnd ops i pan x) (hk : isHK x.k = true) : isHeap P x.o = true := by
  obtain ⟨_, h⟩ := h
  unfold isHeap
  cases hx : x.k <;> rw [hx] at hk h <;> first
    | (cases hk; done)
    | (rw [h.2.2.1])
theorem ent_eff {ev : Ev} {rnd : Option Nat} {ops : Array Oper} {i : Nat} {pan : Option Nat} {x : En} (h : EntOk P ev rnd ops i pan x) (hk : isEK x.k = true) : isEff P x.o = true := by
  obtain ⟨_, h⟩ := h
  unfold isEff
  cases hx : x.k <;> rw [hx] at hk h <;> first
    | (cases hk; done)
    | (rw [h.2.2.1])

structure Same (f g : Fr) : Prop where
  n : g.n = f.n
  defers : g.defers = f.defers
  pc : g.pc = f.pc

theorem put_parts {fr f : Fr} {d : Option Tmp} {v : Value} (h : fr.put d v = some f) : Same fr f ∧ f.wk = fr.wk ∧ (∀ u, f.tm.get u = if d = some u then some v else fr.tm.get u) ∧ (∀ t, d = some t → t < fr.n) := by
  cases d with
  | none => simp only [Fr.put] at h; cases h; exact ⟨⟨rfl, rfl, rfl⟩, rfl, fun u => by simp, fun t ht => by cases ht⟩
  | some t =>
    simp only [Fr.put] at h
    obtain ⟨hb, h⟩ := cond_some h
    cases h
    refine ⟨⟨rfl, rfl, rfl⟩, rfl, fun u => ?_, fun t' ht => by cases ht; exact blt_lt hb⟩
    simp only [Tr.get_put, Option.some.injEq]

theorem restr_get : ∀ (l : List Tmp) (tm : Tr Value) (u : Nat) (v : Value), (restr l tm).get u = some v → u ∈ l ∧ tm.get u = some v
  | [], tm, u, v, h => by simp [restr] at h
  | t :: l, tm, u, v, h => by
    simp only [restr, Tr.get_put] at h
    by_cases e : t = u
    · subst e; rw [if_pos rfl] at h; exact ⟨List.mem_cons_self .., h⟩
    · rw [if_neg e] at h
      have := restr_get l tm u v h
      exact ⟨List.mem_cons_of_mem _ this.1, this.2⟩

/-- What is given: a region's trace. -/
structure Ctx (P : Program) (G : Nat) (ev : Ev) (rnd : Option Nat) (fn : Nat) (ops : Array Oper) (fr0 : Fr) (T : List En) : Prop where
  hG : G = P.globals.size
  he : EvSound P G ev
  reg : RegOk P ops
  ok : TOk P ev rnd ops 0 fr0 none T
  len : T.length = ops.size
  st : stable P ops (befs ops) (effsOf T 0) (stagesOf T 0 (lastFr fr0 T).wk) T 0 = true

section ctx
variable {ev : Ev} {rnd : Option Nat} {fn : Nat} {ops : Array Oper} {fr0 : Fr} {T : List En}

theorem Ctx.ent (c : Ctx P G ev rnd fn ops fr0 T) {j : Nat} {x : En} (h : T[j]? = some x) : ∃ pan, EntOk P ev rnd ops j pan x := by
  rcases c.ok.get j x h with ⟨h1, _⟩ | ⟨q, y, ch, _, _, _, h1⟩
  · exact ⟨none, by simpa using h1⟩
  · exact ⟨_, by simpa using h1⟩
theorem Ctx.op (c : Ctx P G ev rnd fn ops fr0 T) {j : Nat} {x : En} (h : T[j]? = some x) : ops[j]? = some x.o := let ⟨_, h1⟩ := c.ent h; h1.1
theorem Ctx.at_ (c : Ctx P G ev rnd fn ops fr0 T) {j : Nat} (h : j < ops.size) : ∃ x, T[j]? = some x := ⟨T[j]'(by rw [c.len]; exact h), by simp [c.len, h]⟩
theorem Ctx.lt (c : Ctx P G ev rnd fn ops fr0 T) {j : Nat} {x : En} (h : T[j]? = some x) : j < ops.size := by rw [← c.len]; exact (List.getElem?_eq_some_iff.1 h).1
theorem frA_at {j : Nat} {x : En} (h : T[j]? = some x) : frA fr0 T j = x.fr := by unfold frA; rw [h]
theorem Ctx.next (c : Ctx P G ev rnd fn ops fr0 T) {j : Nat} {x : En} (h : T[j]? = some x) : frA fr0 T (j + 1) = x.fr' := c.ok.chain j x h

/-- From one entry to the next. -/
theorem Ctx.step (c : Ctx P G ev rnd fn ops fr0 T) {j : Nat} {x : En} (h : T[j]? = some x) :
    x.fr'.n = x.fr.n ∧ (isHK x.k = false → x.fr'.wk = x.fr.wk) ∧ (isEK x.k = false → x.fr'.defers = x.fr.defers ∧ x.fr'.pc = x.fr.pc) ∧ x.fr.wk.next ≤ x.fr'.wk.next ∧
    (∀ ob mk, x.k = .alloc ob mk → x.fr'.wk = x.fr.wk.push ob ∧ x.v = mk x.fr.wk.next) ∧
    (∀ u v, x.fr'.tm.get u = some v → (x.o.dst = some u ∧ v = x.v ∧ x.k ≠ .blk ∧ ∀ ch, x.k ≠ .pan ch) ∨ ((x.o.dst ≠ some u ∨ x.k = .blk ∨ ∃ ch, x.k = .pan ch) ∧ x.fr.tm.get u = some v)) ∧
    (∀ d, x.o.dst = some d → x.k ≠ .blk → (∀ ch, x.k ≠ .pan ch) → d < x.fr.n) := by
  obtain ⟨pan, ho, hE⟩ := c.ent h
  have viaPut : ∀ {f0 : Fr} {v : Value}, f0.put x.o.dst v = some x.fr' → x.v = v → f0.tm = x.fr.tm → x.k ≠ .blk → (∀ ch, x.k ≠ .pan ch) →
      (∀ u v, x.fr'.tm.get u = some v → (x.o.dst = some u ∧ v = x.v ∧ x.k ≠ .blk ∧ ∀ ch, x.k ≠ .pan ch) ∨ ((x.o.dst ≠ some u ∨ x.k = .blk ∨ ∃ ch, x.k = .pan ch) ∧ x.fr.tm.get u = some v)) := by
    intro f0 v hput hv htm hb hp u z hz
    rw [(put_parts hput).2.2.1 u] at hz
    by_cases e : x.o.dst = some u
    · rw [if_pos e] at hz; cases hz; exact .inl ⟨e, hv.symm, hb, hp⟩
    · rw [if_neg e, htm] at hz; exact .inr ⟨.inl e, hz⟩
  cases hk : x.k with
  | off =>
    rw [hk] at hE
    obtain ⟨_, hv, hput⟩ := hE
    have pp := put_parts hput
    exact ⟨pp.1.n, fun _ => pp.2.1, fun _ => ⟨pp.1.defers, pp.1.pc⟩, by rw [pp.2.1]; exact Nat.le_refl _, (fun ob mk e => by cases e), by rw [← hk]; exact viaPut hput hv rfl (by simp [hk]) (by simp [hk]), fun d hd _ _ => pp.2.2.2 d hd⟩
  | pure =>
    rw [hk] at hE
    obtain ⟨_, _, _, hput⟩ := hE
    have pp := put_parts hput
    exact ⟨pp.1.n, fun _ => pp.2.1, fun _ => ⟨pp.1.defers, pp.1.pc⟩, by rw [pp.2.1]; exact Nat.le_refl _, (fun ob mk e => by cases e), by rw [← hk]; exact viaPut hput rfl rfl (by simp [hk]) (by simp [hk]), fun d hd _ _ => pp.2.2.2 d hd⟩
  | read =>
    rw [hk] at hE
    obtain ⟨_, _, hput⟩ := hE
    have pp := put_parts hput
    exact ⟨pp.1.n, fun _ => pp.2.1, fun _ => ⟨pp.1.defers, pp.1.pc⟩, by rw [pp.2.1]; exact Nat.le_refl _, (fun ob mk e => by cases e), by rw [← hk]; exact viaPut hput rfl rfl (by simp [hk]) (by simp [hk]), fun d hd _ _ => pp.2.2.2 d hd⟩
  | alloc ob mk =>
    rw [hk] at hE
    obtain ⟨_, _, _, _, hv, hput⟩ := hE
    have pp := put_parts hput
    refine ⟨pp.1.n, fun e => by simp [isHK] at e, fun _ => ⟨pp.1.defers, pp.1.pc⟩, by rw [pp.2.1]; exact Nat.le_succ _, (fun ob' mk' e => by cases e; exact ⟨pp.2.1, hv⟩), by rw [← hk]; exact viaPut hput rfl rfl (by simp [hk]) (by simp [hk]), fun d hd _ _ => pp.2.2.2 d hd⟩
  | eff =>
    rw [hk] at hE
    obtain ⟨_, _, _, f, hf, _, hput⟩ := hE
    have pp := put_parts hput
    have hn := (chk_some hf).2
    refine ⟨pp.1.n, fun e => by simp [isHK] at e, fun e => by simp [isEK] at e, by rw [pp.2.1]; exact hn, (fun ob' mk' e => by cases e), by rw [← hk]; exact viaPut hput rfl rfl (by simp [hk]) (by simp [hk]), fun d hd _ _ => pp.2.2.2 d hd⟩
  | pan ch =>
    rw [hk] at hE
    obtain ⟨_, _, _, f, hf, hfr⟩ := hE
    have hn := (chk_some hf).2
    refine ⟨by rw [hfr], fun e => by simp [isHK] at e, fun e => by simp [isEK] at e, by rw [hfr]; exact hn, (fun ob' mk' e => by cases e), fun u v hz => .inr ⟨.inr (.inr ⟨ch, rfl⟩), by rw [hfr] at hz; exact hz⟩, fun d _ _ hp => absurd rfl (hp ch)⟩
  | blk =>
    rw [hk] at hE
    obtain ⟨hfr, _⟩ := hE
    refine ⟨by rw [hfr], fun _ => by rw [hfr], fun _ => by rw [hfr]; exact ⟨rfl, rfl⟩, by rw [hfr]; exact Nat.le_refl _, (fun ob' mk' e => by cases e), fun u v hz => .inr ⟨.inr (.inl rfl), by rw [hfr] at hz; exact hz⟩, fun d _ hb _ => absurd rfl hb⟩

theorem frA_n (c : Ctx P G ev rnd fn ops fr0 T) : ∀ j, j ≤ ops.size → (frA fr0 T j).n = fr0.n
  | 0, _ => by rw [c.ok.first]
  | j + 1, h => by
    obtain ⟨x, hx⟩ := c.at_ (show j < ops.size by omega)
    have ih := frA_n c j (by omega)
    rw [c.next hx, (c.step hx).1, ← frA_at hx (fr0 := fr0), ih]
theorem frA_next (c : Ctx P G ev rnd fn ops fr0 T) {i : Nat} : ∀ {j : Nat}, i ≤ j → j ≤ ops.size → (frA fr0 T i).wk.next ≤ (frA fr0 T j).wk.next
  | 0, h, _ => by have : i = 0 := by omega
                  subst this; exact Nat.le_refl _
  | j + 1, h, hj => by
    by_cases e : i = j + 1
    · subst e; exact Nat.le_refl _
    · have ih := frA_next c (i := i) (j := j) (by omega) (by omega)
      obtain ⟨x, hx⟩ := c.at_ (show j < ops.size by omega)
      rw [c.next hx]
      have := (c.step hx).2.2.2.1
      rw [frA_at hx] at ih
      omega

/-- What the temporaries hold when the text's order has come to j. -/
theorem frA_tm (c : Ctx P G ev rnd fn ops fr0 T) : ∀ j, j ≤ ops.size → ∀ u v, (frA fr0 T j).tm.get u = some v →
    (∃ i y, i < j ∧ T[i]? = some y ∧ y.o.dst = some u ∧ y.v = v ∧ y.k ≠ .blk ∧ ∀ ch, y.k ≠ .pan ch) ∨
    (fr0.tm.get u = some v ∧ ∀ i y, i < j → T[i]? = some y → y.o.dst = some u → y.k = .blk ∨ ∃ ch, y.k = .pan ch)
  | 0, _, u, v, h => by rw [c.ok.first] at h; exact .inr ⟨h, fun i y hi => by omega⟩
  | j + 1, hj, u, v, h => by
    obtain ⟨x, hx⟩ := c.at_ (show j < ops.size by omega)
    rw [c.next hx] at h
    rcases (c.step hx).2.2.2.2.2.1 u v h with ⟨h1, h2, h3, h4⟩ | ⟨h1, h2⟩
    · exact .inl ⟨j, x, by omega, hx, h1, h2.symm, h3, h4⟩
    · rw [← frA_at hx (fr0 := fr0)] at h2
      rcases frA_tm c j (by omega) u v h2 with ⟨i, y, a, b, d, e, f, g⟩ | ⟨h3, h4⟩
      · exact .inl ⟨i, y, by omega, b, d, e, f, g⟩
      · refine .inr ⟨h3, fun i y hi hy hd => ?_⟩
        by_cases e : i = j
        · subst e
          rw [hx] at hy; cases hy
          rcases h1 with h1 | h1
          · exact absurd hd h1
          · exact h1
        · exact h4 i y (by omega) hy hd

theorem mem_stages : ∀ {T : List En} {i j : Nat} {h : SW} {x : En}, T[j]? = some x → isHK x.k = true → (∀ (q : Nat) (y : En) ch, q < j → T[q]? = some y → y.k ≠ .pan ch) → (i + j, x.fr.wk) ∈ stagesOf T i h
  | [], i, j, h, x, hx, _, _ => by simp at hx
  | y :: T, i, 0, h, x, hx, hk, _ => by
    simp at hx; subst hx
    unfold stagesOf
    cases hxk : y.k <;> rw [hxk] at hk <;> first
      | (cases hk; done)
      | simp
  | y :: T, i, j + 1, h, x, hx, hk, hn => by
    have ih := mem_stages (T := T) (i := i + 1) (h := h) (j := j) (by simpa using hx) hk (fun q z ch hq hz => hn (q + 1) z ch (by omega) (by simpa using hz))
    rw [show i + (j + 1) = i + 1 + j by omega]
    unfold stagesOf
    cases hyk : y.k with
    | pan ch => exact absurd hyk (hn 0 y ch (by omega) (by simp))
    | _ => simp [ih]
theorem mem_stages_end : ∀ {T : List En} {i : Nat} {h : SW}, (∀ (q : Nat) (y : En) ch, T[q]? = some y → y.k ≠ .pan ch) → (i + T.length, h) ∈ stagesOf T i h
  | [], i, h, _ => by simp [stagesOf]
  | y :: T, i, h, hn => by
    have ih := mem_stages_end (T := T) (i := i + 1) (h := h) (fun q z ch hz => hn (q + 1) z ch (by simpa using hz))
    rw [List.length_cons, show i + (T.length + 1) = i + 1 + T.length by omega]
    unfold stagesOf
    cases hyk : y.k with
    | pan ch => exact absurd hyk (hn 0 y ch (by simp))
    | _ => simp [ih]

theorem effs_mem : ∀ {T : List En} {i f : Nat}, f ∈ effsOf T i → ∃ j x, f = i + j ∧ T[j]? = some x ∧ isEK x.k = true
  | [], i, f, h => by simp [effsOf] at h
  | y :: T, i, f, h => by
    have tail : f ∈ effsOf T (i + 1) → ∃ j x, f = i + j ∧ (y :: T)[j]? = some x ∧ isEK x.k = true := fun h => by
      obtain ⟨j, x, h1, h2, h3⟩ := effs_mem h
      exact ⟨j + 1, x, by omega, by simpa using h2, h3⟩
    unfold effsOf at h
    cases hk : y.k <;> rw [hk] at h <;> first
      | exact tail h
      | (rcases List.mem_cons.1 h with rfl | h
         · exact ⟨0, y, rfl, rfl, by rw [hk]; rfl⟩
         · exact tail h)

theorem may_of {b : Tr Nat} {i m : Nat} : ∀ {l : List Nat}, (∀ f ∈ l, (bit ((b.get i).getD 0) f = true → f < m) ∧ (bit ((b.get f).getD 0) i = true → m ≤ f)) → may b i m l = true
  | [], _ => rfl
  | f :: l, h => by
    simp only [may, Bool.and_eq_true, Bool.or_eq_true, Bool.not_eq_true']
    have hf := h f (List.mem_cons_self ..)
    refine ⟨⟨?_, ?_⟩, may_of fun g hg => h g (List.mem_cons_of_mem _ hg)⟩
    · cases hb : bit ((b.get i).getD 0) f with
      | false => exact .inl rfl
      | true => exact .inr (by rw [blt_eq]; exact decide_eq_true (hf.1 hb))
    · cases hb : bit ((b.get f).getD 0) i with
      | false => exact .inl rfl
      | true => exact .inr (Nat.ble_eq_true_of_le (hf.2 hb))

theorem readAll_mem {b : Tr Nat} {effs : List Nat} {i : Nat} {o : Oper} {e : Env} {v : Value} : ∀ {l : List (Nat × SW)}, readAll P b effs i o e v l = true → ∀ {m : Nat} {h : SW}, (m, h) ∈ l → may b i m effs = true → readOp P e o h = some v
  | [], _, m, h, hm, _ => by simp at hm
  | (m0, h0) :: l, hr, m, h, hm, hy => by
    simp only [readAll, Bool.and_eq_true, Bool.or_eq_true, Bool.not_eq_true'] at hr
    rcases List.mem_cons.1 hm with e | hm
    · cases e
      rcases hr.1 with h1 | h1
      · rw [hy] at h1; cases h1
      · split at h1
        · rename_i u hu; rw [hu, veq_eq h1]
        · cases h1
    · exact readAll_mem hr.2 hm hy

theorem stable_at {b : Tr Nat} {effs : List Nat} {st : List (Nat × SW)} : ∀ {T : List En} {i j : Nat} {x : En}, stable P ops b effs st T i = true → T[j]? = some x → x.k = .read → readAll P b effs (i + j) x.o ((x.fr.at ops x.o).env P) x.v st = true
  | [], i, j, x, _, hx, _ => by simp at hx
  | y :: T, i, 0, x, h, hx, hk => by
    simp at hx; subst hx
    simp only [stable, Bool.and_eq_true, hk] at h
    exact h.1
  | y :: T, i, j + 1, x, h, hx, hk => by
    simp only [stable, Bool.and_eq_true] at h
    have := stable_at h.2 (by simpa using hx) hk
    rw [show i + (j + 1) = i + 1 + j by omega]; exact this

end ctx
end Go.Sh
