/- Shadow evaluation, 27: a region that draws its order is right. -/
import Derived.Test.YtjipcihcldngbaaGreatDoorShZ
namespace Go.Sh
variable {P : Program} {ρ : Rho} {G : Nat}

section ctx
variable {ev : Ev} {rnd : Option Nat} {fn : Nat} {ops : Array Oper} {fr0 : Fr} {T : List En} {b : Frame} {cs0 cs : List Frame} {w0 w : World} {ρ0 : Rho} {D : Nat → Prop} {m : Nat} {a : Act}

theorem Ctx.pan_uniq (c : Ctx P G ev rnd fn ops fr0 T) {p q : Nat} {x y : En} {ch ch' : List PanicEntry} (hx : T[p]? = some x) (hk : x.k = .pan ch) (hy : T[q]? = some y) (hk' : y.k = .pan ch') : p = q := by
  have key : ∀ {p q : Nat} {x y : En} {ch ch' : List PanicEntry}, T[p]? = some x → x.k = .pan ch → T[q]? = some y → y.k = .pan ch' → ¬ p < q := fun {p q x y ch ch'} hx hk hy hk' hlt => by
    rcases c.ok.get q y hy with ⟨_, h2⟩ | ⟨r, z, ch2, _, _, _, h2⟩
    · exact h2 p x ch hlt hx hk
    · have := h2.2; rw [hk'] at this; exact absurd this.1 (by simp)
  have h1 := key hx hk hy hk'
  have h2 := key hy hk' hx hk
  omega

theorem Ctx.after_pan (c : Ctx P G ev rnd fn ops fr0 T) {p : Nat} {x : En} {ch : List PanicEntry} (hx : T[p]? = some x) (hk : x.k = .pan ch) : ∀ j, p < j → j ≤ ops.size → (frA fr0 T j).wk = x.fr'.wk
  | 0, h, _ => by omega
  | j + 1, h, hj => by
    by_cases e : j = p
    · subst e; rw [c.next hx]
    · have ih := c.after_pan hx hk j (by omega) (by omega)
      obtain ⟨y, hy⟩ := c.at_ (show j < ops.size by omega)
      have hnk : isHK y.k = false := by
        rcases c.ok.get j y hy with ⟨_, h2⟩ | ⟨r, z, ch2, _, _, _, h2⟩
        · exact absurd hk (h2 p x ch (by omega) hx)
        · have := h2.2
          cases e2 : y.k <;> rw [e2] at this <;> first | rfl | exact absurd this.1 (by simp)
      rw [c.next hy, (c.step hy).2.1 hnk, ← frA_at hy (fr0 := fr0), ih]

theorem region_run (c : Ctx P G ev rnd fn ops fr0 T) (hB : Base ρ0 rnd fn b) (hf0 : ∀ j, fr0.wk.next ≤ j → j < (frA fr0 T ops.size).wk.next → ρ0 j = none) (k : List Item) :
    ∀ (fuel t : Nat) (listed : Array Bool) {m : Nat} {ρ : Rho} {a : Act} {cs : List Frame} {w : World}, listed.size = ops.size → Inv P G ops fr0 T b cs0 w0 ρ0 (Dl listed) m ρ a cs w →
      (List.range ops.size).countP (fun j => !listed.getD j false) ≤ fuel →
      RegEnd P G rnd fn ops fr0 T b cs0 w0 ρ0 (lone (b.atR a (.inRegion ops (Region.linearise.go .any ops fuel t listed []) :: k)) cs w) k := by
  -- all has been carried out
  have done : ∀ {listed : Array Bool} {m : Nat} {ρ : Rho} {a : Act} {cs : List Frame} {w : World}, Inv P G ops fr0 T b cs0 w0 ρ0 (Dl listed) m ρ a cs w → (∀ j, j < ops.size → Dl listed j) →
      RegEnd P G rnd fn ops fr0 T b cs0 w0 ρ0 (lone (b.atR a (.inRegion ops [] :: k)) cs w) k := by
    intro listed m ρ a cs w h hall
    obtain ⟨m', h', hm'⟩ := h.far c _ (Nat.le_refl _)
    have em : m' = ops.size := by
      rcases hm' with e | ⟨x, hx, _, hn⟩
      · exact e
      · exact absurd (hall m' (c.lt hx)) hn
    subst em
    have hfl : frA fr0 T ops.size = lastFr fr0 T := by unfold frA; rw [List.getElem?_eq_none (by rw [c.len]; exact Nat.le_refl _)]
    have hnop : ∀ j y ob mk, ¬ Pend T (Dl listed) ops.size j y ob mk := fun j y ob mk hq => by have := c.lt hq.at_; have := hq.m; omega
    refine .inl ⟨ρ, a, cs, w, ?_, ?_, h'.csm, Steps.one stepR_region_end, fun q y ch hy hyk => h'.nopan q y ch hy hyk (hall q (c.lt hy))⟩
    · have e := h'.evo
      rw [hfl] at e
      refine ⟨e.ext, fun i hi => ?_, e.next, e.lv, e.nw, by have := h'.rel; rw [hfl] at this; exact this, e.keep⟩
      rcases hi with hi | hi
      · exact e.old i hi
      · rcases h'.fresh i (by rw [hfl]; exact hi) with h1 | ⟨q, y, ob, mk, hq, _⟩
        · exact h1
        · exact absurd hq (hnop _ _ _ _)
    · have hB' := hB.mono h'.evo.ext
      refine ⟨hB'.fn, hB'.rnd, fun u v hv => ?_, ?_, by have := h'.dfs; rw [hfl] at this; exact this, by have := h'.pc; rw [hfl] at this; exact this⟩
      · rw [← hfl] at hv
        rcases frA_tm c ops.size (Nat.le_refl _) u v hv with ⟨i, y, hi, hy, hd, hyv, _, _⟩ | ⟨h1, h2⟩
        · obtain ⟨z, h3, h4⟩ := h'.t1 i y u (hall i hi) hy hd
          exact ⟨z, h3, by rw [← hyv]; exact h4⟩
        · refine h'.t0 u v (fun j y hD hy hd => ?_) h1
          rcases h2 j y (c.lt hy) hy hd with hk | ⟨ch, hk⟩
          · exact h'.noblk j y hy hk hD
          · exact h'.nopan j y ch hy hk hD
      · have := frA_n c ops.size (Nat.le_refl _)
        rw [hfl] at this
        rw [this]; exact h'.n
  intro fuel
  induction fuel with
  | zero =>
    intro t listed m ρ a cs w hsz h hcount
    simp only [Region.linearise.go, List.reverse_nil]
    refine done h fun j hj => ?_
    have h0 : (List.range ops.size).countP (fun j => !listed.getD j false) = 0 := by omega
    rw [List.countP_eq_zero] at h0
    have := h0 j (by simpa using hj)
    simpa [Dl] using this
  | succ fuel ih =>
    intro t listed m ρ a cs w hsz h hcount
    simp only [Region.linearise.go]
    change RegEnd P G rnd fn ops fr0 T b cs0 w0 ρ0 (lone (b.atR a (.inRegion ops (match (Region.ready .any ops listed)[t % (Region.ready .any ops listed).length]? with
      | some i => Region.linearise.go .any ops fuel (t / (Region.ready .any ops listed).length) (listed.setIfInBounds i true) [i]
      | none => [].reverse) :: k)) cs w) k
    cases hi : (Region.ready .any ops listed)[t % (Region.ready .any ops listed).length]? with
    | none =>
      have hnil : Region.ready .any ops listed = [] := by
        cases hr : Region.ready .any ops listed with
        | nil => rfl
        | cons x xs =>
          rw [hr] at hi
          have hlt : t % (x :: xs).length < (x :: xs).length := Nat.mod_lt _ (by simp)
          simp at hi
          simp at hlt
          omega
      simp only [List.reverse_nil]
      refine done h fun j => ?_
      induction j using Nat.strongRecOn with
      | _ j ihj =>
        intro hj
        refine Classical.byContradiction fun hn => ?_
        have hjl : listed.getD j true = false := by
          have : j < listed.size := by omega
          simp only [Dl, Array.getD_eq_getD_getElem?, Array.getElem?_eq_getElem this, Option.getD_some] at hn
          simp only [Array.getD_eq_getD_getElem?, Array.getElem?_eq_getElem this, Option.getD_some]
          simpa using hn
        have ho : ops[j]? = some ops[j] := by simp [hj]
        have : j ∈ Region.ready .any ops listed := mem_ready.2 ⟨hjl, ops[j], ho, fun e he hb => ihj e.on (c.reg.back j _ ho e he hb) (by have := c.reg.back j _ ho e he hb; omega)⟩
        rw [hnil] at this
        simp at this
    | some i =>
      simp only
      rw [linearise_go_acc, List.reverse_singleton, List.singleton_append]
      obtain ⟨hil, o, ho, hall⟩ := mem_ready.1 (List.mem_of_getElem? hi)
      have hilt : i < ops.size := (Array.getElem?_eq_some_iff.1 ho).1
      have hnD : ¬ Dl listed i := by
        have : i < listed.size := by omega
        simp only [Dl, Array.getD_eq_getD_getElem?, Array.getElem?_eq_getElem this, Option.getD_some]
        simp only [Array.getD_eq_getD_getElem?, Array.getElem?_eq_getElem this, Option.getD_some] at hil
        simp [hil]
      have hr : Ready ops (Dl listed) i := ⟨hnD, o, ho, hall⟩
      obtain ⟨x, hx⟩ := c.at_ hilt
      have hxo := c.op hx
      obtain ⟨m', h', hfar⟩ := h.far c _ (Nat.le_refl _)
      have hset := Dl_set (listed := listed) (i := i) (by omega)
      have hsz' : (listed.setIfInBounds i true).size = ops.size := by simp [hsz]
      have hcount' : (List.range ops.size).countP (fun j => !(listed.setIfInBounds i true).getD j false) ≤ fuel := by
        have hlt := countP_lt (l := List.range ops.size) (p := fun j => !listed.getD j false) (q := fun j => !(listed.setIfInBounds i true).getD j false) (fun j _ hq => by
          by_cases e : i = j
          · subst e
            have : (listed.setIfInBounds i true).getD i false = true := by simp [show i < listed.size by omega]
            rw [this] at hq; simp at hq
          · rw [getD_set_ne false e] at hq; exact hq) ⟨i, by simpa using hilt, by simpa [Dl] using hnD, by simp [show i < listed.size by omega]⟩
        omega
      -- a value is laid
      have val : ∀ {v' : Value}, isHK x.k = false → VR ρ x.v v' → step P (lone (b.atR a (.inRegion ops (i :: Region.linearise.go .any ops fuel (t / (Region.ready .any ops listed).length) (listed.setIfInBounds i true) []) :: k)) cs w) =
          .next (lone (b.atR (a.put x.o.dst v') (.inRegion ops (Region.linearise.go .any ops fuel (t / (Region.ready .any ops listed).length) (listed.setIfInBounds i true) []) :: k)) cs w) →
          RegEnd P G rnd fn ops fr0 T b cs0 w0 ρ0 (lone (b.atR a (.inRegion ops (i :: Region.linearise.go .any ops fuel (t / (Region.ready .any ops listed).length) (listed.setIfInBounds i true) []) :: k)) cs w) k := by
        intro v' hk hv hst
        have h2 := h'.val c hr hx hk hv
        rw [← hset] at h2
        exact RegEnd.of_steps (Steps.one hst) (ih _ _ hsz' h2 hcount')
      have hlooks := h'.looks c hr hx
      have hstage : ∀ (hh : isHK x.k = true) (he : isEK x.k = true), i = m' := fun hh he => by
        have hmi : m' ≤ i := by
          rcases Nat.lt_or_ge i m' with h1 | h1
          · exact absurd (h'.pre i x h1 hx hh) hnD
          · exact h1
        rcases Nat.lt_or_ge m' i with h1 | h1
        · exfalso
          rcases hfar with e | ⟨y, hy, hyk, hyn⟩
          · omega
          · obtain ⟨_, hEy⟩ := c.ent hy
            obtain ⟨_, hEx⟩ := c.ent hx
            rcases c.reg.ord m' i _ _ h1 (c.op hy) hxo with h2 | ⟨_, _, h2⟩
            · exact hyn (hr.bef c.reg h'.closed h2)
            · exact h2 ⟨ent_heap hEy hyk, ent_eff hEx he⟩
        · omega
      obtain ⟨pan, _, hE⟩ := c.ent hx
      cases hk : x.k with
      | off =>
        rw [hk] at hE
        obtain ⟨hw, hv, _⟩ := hE
        have hw' := wanted_of hlooks hw
        have hsk := stepR_op_skip (P := P) (b := b) (a := a) (k := k) (cs := cs) (w := w) (ops := ops) (i := i) (rest := Region.linearise.go .any ops fuel (t / (Region.ready .any ops listed).length) (listed.setIfInBounds i true) []) (by rw [hxo]; simpa using hw')
        rw [hxo] at hsk
        simp only [Option.bind_some] at hsk
        exact val (by rw [hk]; rfl) (by rw [hv]; exact undefR ρ) hsk
      | pure =>
        rw [hk] at hE
        obtain ⟨hw, hc, hv, _⟩ := hE
        obtain ⟨v', h1, h2⟩ := pureOp_sound (env_of hlooks h'.rel c.hG) hv
        exact val (by rw [hk]; rfl) h1 (step_value hxo (wanted_of hlooks hw) (cls_defer (by rw [hc]; simp)) (h2 w))
      | read =>
        rw [hk] at hE
        obtain ⟨hw, hc, _⟩ := hE
        have hrd := h'.reads c hfar hr hx hk
        obtain ⟨v', h1, h2⟩ := readOp_sound (env_of hlooks h'.rel c.hG) h'.rel hrd
        exact val (by rw [hk]; rfl) h1 (step_value hxo (wanted_of hlooks hw) (cls_defer (by rw [hc]; simp)) h2)
      | alloc ob mk =>
        rw [hk] at hE
        obtain ⟨_, hw, hc, hal, _⟩ := hE
        obtain ⟨ob', mk', h1, h2, h3⟩ := allocOp_sound (env_of hlooks h'.rel c.hG) hal
        have h4 := h'.alloc c hr hx hk hf0 h1 h3
        rw [← hset] at h4
        exact RegEnd.of_steps (Steps.one (step_value hxo (wanted_of hlooks hw) (cls_defer (by rw [hc]; simp)) (h2 w))) (ih _ _ hsz' h4 hcount')
      | eff =>
        have e := hstage (by rw [hk]; rfl) (by rw [hk]; rfl)
        subst e
        obtain ⟨ρ', a', cs', w', h4, hs⟩ := h'.eff c hB hr hx hk hf0 (Region.linearise.go .any ops fuel (t / (Region.ready .any ops listed).length) (listed.setIfInBounds i true) []) k
        rw [← hset] at h4
        exact RegEnd.of_steps hs (ih _ _ hsz' h4 hcount')
      | pan ch =>
        have e := hstage (by rw [hk]; rfl) (by rw [hk]; rfl)
        subst e
        refine h'.panics c hB hr hx hk (fun j h1 h2 => hf0 j h1 ?_) _ k
        have := c.after_pan hx hk ops.size hilt (Nat.le_refl _)
        rw [this]; exact h2
      | blk => exact absurd hk (h'.noblk_ready c hr hx)

end ctx

theorem panOf_none : ∀ {T : List En}, panOf T = none → ∀ (q : Nat) (y : En) ch, T[q]? = some y → y.k ≠ .pan ch
  | [], _, q, y, ch, h => by simp at h
  | x :: T, h, q, y, ch, hy => by
    unfold panOf at h
    cases hk : x.k <;> rw [hk] at h <;> first
      | (cases h; done)
      | (cases q with
         | zero => simp at hy; subst hy; rw [hk]; simp
         | succ q => exact panOf_none h q y ch (by simpa using hy))
theorem panOf_some : ∀ {T : List En} {ch : List PanicEntry} {f : Fr}, panOf T = some (ch, f) → ∃ (p : Nat) (x : En), T[p]? = some x ∧ x.k = .pan ch ∧ x.fr' = f
  | [], ch, f, h => by simp [panOf] at h
  | x :: T, ch, f, h => by
    unfold panOf at h
    cases hk : x.k <;> rw [hk] at h <;> first
      | (cases h; exact ⟨0, x, rfl, hk, rfl⟩)
      | (obtain ⟨p, y, h1, h2, h3⟩ := panOf_some h
         exact ⟨p + 1, y, by simpa using h1, h2, h3⟩)

theorem drawnS_sound (hG : G = P.globals.size) (hmix : P.follows .mixedOrders = true) {ev : Ev} (he : EvSound P G ev) {rnd : Option Nat} {fn : Nat} {id : Nat} {ops : Array Oper} {fr fr' : Fr} {e : Ex} (h : drawnS P ev rnd ops fr = some (e, fr')) :
    CodeOk P G rnd fn (.region id ops true) fr e fr' := by
  intro ρ b a cs w k hf hr hfresh
  unfold drawnS at h
  obtain ⟨hreg, h⟩ := cond_some h
  split at h
  · rename_i T hT
    obtain ⟨hst, h⟩ := cond_some h
    obtain ⟨hlen, hok⟩ := trace_spec ops.toList 0 fr fr.wk none (fun j => by simp) hT
    have c : Ctx P G ev rnd fn ops fr T := ⟨hG, he, regOk_spec hreg, hok, by simpa using hlen, hst⟩
    have hB : Base ρ rnd fn b := ⟨hf.fn, hf.rnd⟩
    have hfl : frA fr T ops.size = lastFr fr T := by unfold frA; rw [List.getElem?_eq_none (by rw [c.len]; exact Nat.le_refl _)]
    have hfw : (frA fr T ops.size).wk = fr'.wk := by
      split at h
      · cases h; rw [hfl]
      · rename_i ch f hp
        cases h
        obtain ⟨p, x, h1, h2, h3⟩ := panOf_some hp
        rw [c.after_pan h1 h2 ops.size (c.lt h1) (Nat.le_refl _), h3]
    have hdraw := stepR_region_draw (P := P) (b := b) (a := a) (k := k) (cs := cs) (w := w) (id := id) (ops := ops)
    have hinv : Inv P G ops fr T b cs { w with drawn := w.drawn + 1 } ρ (Dl (Array.replicate ops.size false)) 0 ρ a cs { w with drawn := w.drawn + 1 } := by
      have hD : ∀ j, ¬ Dl (Array.replicate ops.size false) j := fun j hj => by
        unfold Dl at hj
        simp [Array.getElem?_replicate] at hj
        split at hj <;> simp_all
      have h0 := c.ok.first
      have hr' : Rel G ρ fr.wk { w with drawn := w.drawn + 1 } := hr.world fun _ _ _ _ _ _ => rfl
      exact ⟨fun j _ _ hj => absurd hj (hD j), fun j hj => absurd hj (hD j), fun j _ _ _ _ => hD j, fun j _ _ _ => hD j, fun j _ _ _ hj => absurd hj (hD j), Nat.zero_le _, fun j _ hj => by omega, by rw [h0]; exact hr',
        fun j _ _ hj => absurd hj (hD j), fun u v _ hv => hf.tm u v hv, hf.n, by rw [h0]; exact hf.dfs, by rw [h0]; exact hf.pc, CsMod.refl _ _, fun j _ _ _ hq => absurd hq.d (hD j), fun j _ _ _ _ _ _ _ _ hq => absurd hq.d (hD j), fun i _ => .inl rfl,
        by rw [h0]; exact ⟨Ext.refl ρ, fun _ _ => rfl, Nat.le_refl _, fun i o hg _ => ⟨o, hg⟩, fun i o b1 c1 hg hn _ => by have := hr.get_lt hg; omega, ⟨rfl, rfl, rfl, Nat.le_refl _, fun _ _ _ => rfl⟩⟩⟩
    have hcount : (List.range ops.size).countP (fun j => !(Array.replicate ops.size false).getD j false) ≤ ops.size := by
      have := List.countP_le_length (p := fun j => !(Array.replicate ops.size false).getD j false) (l := List.range ops.size)
      simpa using this
    have hrun := region_run c hB (fun j h1 h2 => hfresh j h1 (by rw [← hfw]; exact h2)) k ops.size (w.tape w.drawn (.order b.fn id)) (Array.replicate ops.size false) (by simp) hinv hcount
    have hsched : Region.schedule (P.follows .mixedOrders) ops (w.tape w.drawn (.order b.fn id)) = Region.linearise.go .any ops ops.size (w.tape w.drawn (.order b.fn id)) (Array.replicate ops.size false) [] := by
      simp only [Region.schedule, hmix, Bool.true_or, if_true]
      rfl
    rw [← hsched] at hrun
    have hrun' := RegEnd.of_steps (Steps.one hdraw) hrun
    rcases hrun' with ⟨ρ', a', cs', w', h1, h2, h3, h4, h5⟩ | ⟨p, x, ch, ρ', a', cs', w', ch', k0, h1, h2, h3, h4, h5, h6, h7⟩
    · split at h
      · cases h
        exact ⟨ρ', a', cs', w', h1.from_draw rfl rfl rfl rfl, h2, h3, h4⟩
      · rename_i ch f hp
        obtain ⟨p, x, q1, q2, _⟩ := panOf_some hp
        exact absurd q2 (h5 p x ch q1)
    · split at h
      · rename_i hp
        exact absurd h2 (panOf_none hp p x ch h1)
      · rename_i ch2 f hp
        cases h
        obtain ⟨q, y, q1, q2, q3⟩ := panOf_some hp
        have := c.pan_uniq h1 h2 q1 q2
        subst this
        rw [h1] at q1; cases q1
        rw [h2] at q2; cases q2
        subst q3
        exact ⟨ρ', a', cs', w', h3.from_draw rfl rfl rfl rfl, h4, h5, ch', k0, h6, h7⟩
  · cases h

end Go.Sh
