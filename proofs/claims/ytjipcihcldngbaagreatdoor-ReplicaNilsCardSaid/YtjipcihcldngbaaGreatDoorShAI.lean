/- Shadow evaluation, 35: calls of which a contract is known, whatever the run's draws: the sorted keys of a map. -/
import Derived.Test.YtjipcihcldngbaaGreatDoorShAH
import Derived.Sort.KeysCollected
import Derived.Maps.Own
namespace Go.Sh
open Go.RowKit
variable {P : Program} {ρ : Rho} {G : Nat}

/-- What is known of calls. has: may such a call stand in a region? -/
structure Kn where
  has : Array Oper → Bool
  run : Nat → List Value → SW → Option (Value × SW)

def CallN (P : Program) (G : Nat) (f : Nat) (args : List Value) (σ : SW) (v : Value) (σ' : SW) : Prop :=
  ∀ ρ (args' : Array Value) cs w, LR ρ args args'.toList → Rel G ρ σ w → Fresh ρ σ σ' →
    ∃ ρ' frl w', Evo G ρ σ w ρ' σ' w' ∧ Steps P (lone (Frame.enter P f args' .normal) cs w) (lone frl cs w') ∧ Leav P ρ' f .normal (.ret v) frl w'
def KnOk (P : Program) (G : Nat) (K : Kn) : Prop := ∀ {f args σ v σ'}, K.run f args σ = some (v, σ') → CallN P G f args σ v σ' ∧ σ.next ≤ σ'.next

def knownR (o : Oper) (fr : Fr) : Option (Value × SW) → Option (Ex × Fr)
  | some (v, σ) => putN (({ fr with wk := σ } : Fr).put o.dst v)
  | none => none
def knownT (P : Program) (K : Kn) (o : Oper) (fr : Fr) : Option Tgt → Option (Ex × Fr)
  | some (.enter f args) => bif bodied P f then knownR o fr (K.run f args fr.wk) else none
  | _ => none
def knownS (P : Program) (K : Kn) (o : Oper) (fr : Fr) : Option (Ex × Fr) :=
  match o.op with
  | .call c => knownT P K o fr (target P (fr.env P) c)
  | _ => none
def orElse (a b : Option (Ex × Fr)) : Option (Ex × Fr) :=
  match a with
  | some r => some r
  | none => b
def operK (P : Program) (K : Kn) (ev : Ev) (rnd : Option Nat) (o : Oper) (fr : Fr) : Option (Ex × Fr) := orElse (knownS P K o fr) (operS P ev rnd o fr)

theorem known_ok (hG : G = P.globals.size) {K : Kn} (hK : KnOk P G K) {rnd : Option Nat} {fn : Nat} {o : Oper} {fr fr' : Fr} {e : Ex} (h : knownS P K o fr = some (e, fr')) :
    OpOk P G rnd fn o fr e fr' ∧ fr.wk.next ≤ fr'.wk.next := by
  obtain ⟨dst, op, ty, pos, after, guard⟩ := o
  cases op with
  | call c =>
    simp only [knownS] at h
    cases htgt : target P (fr.env P) c with
    | none => rw [htgt] at h; cases h
    | some tg =>
      rw [htgt] at h
      cases tg with
      | round l args => cases h
      | enter g args =>
        simp only [knownT] at h
        obtain ⟨hbod, h⟩ := cond_some h
        cases hrun0 : K.run g args fr.wk with
        | none => rw [hrun0] at h; cases h
        | some p =>
          obtain ⟨v, σ⟩ := p
          rw [hrun0] at h
          simp only [knownR] at h
          cases hput : ({ fr with wk := σ } : Fr).put dst v with
          | none => rw [hput] at h; cases h
          | some f1 =>
            rw [hput] at h
            cases h
            obtain ⟨hcall, hnx⟩ := hK hrun0
            have hwk : fr'.wk = σ := put_wk hput
            refine ⟨?_, by rw [hwk]; exact hnx⟩
            unfold bodied at hbod
            split at hbod
            · rename_i fnv hfv
              intro ρ b a cs w ops i rest k ho hw hf hr hfresh
              obtain ⟨args', hA, hrn⟩ := target_enter (hf.env hr hG) htgt hfv hbod ty
              have hrn' : (execOp a.eval { dst := dst, op := .call c, type := ty, pos := pos, after := after, guard := guard }).run P w = .ok (.enter g args') w := hrn w
              obtain ⟨ρ', frl, w', hev, hsteps, hfn, hk, hdf, fnv2, hfv2, v', hv, hm, hrs⟩ := hcall ρ args' (b.atR a (.inRegion ops (i :: rest) :: k) :: cs) w hA hr (by rw [← hwk]; exact hfresh)
              have henter := step_enter (k := k) (cs := cs) (rest := rest) (b := b) ho hw (by simp) hrn'
              have hl : frl.leaving P w' (.returned v') := ⟨hm, hdf, hk, fnv2, by rw [hfn]; exact hfv2, hrs⟩
              have hback := step_leave_returned (P := P) (c := b.atR a (.inRegion ops (i :: rest) :: k)) (cs := cs) hl
              rw [Frame.finish_atR, ho] at hback
              obtain ⟨h1, h2⟩ := ((hf.mono hev.ext).wk σ).put hv hput
              exact ⟨ρ', a.put dst v', cs, w', by rw [hwk]; exact hev, h1, CsMod.refl _ _, .inl ⟨rfl, v', rfl⟩, (Steps.head henter hsteps).trans (Steps.one hback)⟩
            · cases hbod
  | _ => simp [knownS] at h

theorem operK_sound (hG : G = P.globals.size) {K : Kn} (hK : KnOk P G K) {ev : Ev} (he : EvSound P G ev) {rnd : Option Nat} {fn : Nat} {o : Oper} {fr fr' : Fr} {e : Ex} (h : operK P K ev rnd o fr = some (e, fr')) :
    OpOk P G rnd fn o fr e fr' ∧ fr.wk.next ≤ fr'.wk.next := by
  unfold operK orElse at h
  split at h
  · rename_i r hr
    cases h
    exact known_ok hG hK hr
  · exact operS_sound hG he h

def opsK (P : Program) (K : Kn) (ev : Ev) (rnd : Option Nat) (ops : Array Oper) : List Nat → Fr → Option (Ex × Fr)
  | [], fr => some (.normal, fr)
  | i :: rest, fr => match ops[i]? with
    | none => none
    | some o => match wantedS ops o fr with
      | some true => match operK P K ev rnd o fr with
        | some (.normal, fr) => opsK P K ev rnd ops rest fr
        | r => r
      | some false => match fr.put o.dst undef with
        | some fr => opsK P K ev rnd ops rest fr
        | none => none
      | none => none

theorem opsK_sound (hG : G = P.globals.size) {K : Kn} (hK : KnOk P G K) {ev : Ev} (he : EvSound P G ev) {rnd : Option Nat} {fn : Nat} {ops : Array Oper} : ∀ {l : List Nat} {fr fr' : Fr} {e : Ex}, opsK P K ev rnd ops l fr = some (e, fr') →
    OpsOk P G rnd fn ops l fr e fr' ∧ fr.wk.next ≤ fr'.wk.next
  | [], fr, fr', e, h => by
    simp only [opsK] at h; cases h
    refine ⟨?_, Nat.le_refl _⟩
    intro ρ b a cs w k hf hr _
    exact ⟨ρ, a, cs, w, Evo.refl hr, hf, CsMod.refl _ _, Steps.one stepR_region_end⟩
  | i :: rest, fr, fr', e, h => by
    simp only [opsK] at h
    split at h
    · cases h
    · rename_i o ho
      split at h
      · rename_i hwant
        split at h
        · rename_i f1 h1
          obtain ⟨ok1, n1⟩ := operK_sound (fn := fn) hG hK he h1
          obtain ⟨ok2, n2⟩ := opsK_sound hG hK he (fn := fn) h
          refine ⟨?_, Nat.le_trans n1 n2⟩
          intro ρ b a cs w k hf hr hfresh
          obtain ⟨ρ1, a1, cs1, w1, ev1, hf1, m1, _, s1⟩ := ok1 ρ b a cs w ops i rest k ho (wantedS_sound hf hwant) hf hr (hfresh.first n2)
          obtain ⟨ρ2, a2, cs2, w2, ev2, hf2, m2, s2⟩ := ok2 ρ1 b a1 cs1 w1 k hf1 ev1.rel (hfresh.second ev1)
          exact ⟨ρ2, a2, cs2, w2, ev1.trans ev2, hf2, m1.trans m2, ArrR.of_steps s1 s2⟩
        · rename_i r hne
          obtain ⟨ok1, n1⟩ := operK_sound (fn := fn) hG hK he h
          refine ⟨?_, n1⟩
          intro ρ b a cs w k hf hr hfresh
          obtain ⟨ρ1, a1, cs1, w1, ev1, hf1, m1, _, s1⟩ := ok1 ρ b a cs w ops i rest k ho (wantedS_sound hf hwant) hf hr hfresh
          exact ⟨ρ1, a1, cs1, w1, ev1, hf1, m1, ArrR.pass (fun e0 => hne _ (by rw [h, e0])) rfl s1⟩
      · rename_i hwant
        split at h
        · rename_i f1 hput
          obtain ⟨ok2, n2⟩ := opsK_sound hG hK he (fn := fn) h
          have hwk := put_wk hput
          refine ⟨?_, by rw [hwk] at n2; exact n2⟩
          intro ρ b a cs w k hf hr hfresh
          have hw := wantedS_sound hf hwant
          have hsk := stepR_op_skip (P := P) (b := b) (a := a) (k := k) (cs := cs) (w := w) (ops := ops) (i := i) (rest := rest) (by rw [ho]; simpa using hw)
          rw [ho] at hsk
          simp only [Option.bind_some] at hsk
          obtain ⟨hf1, _⟩ := hf.put (undefR ρ) hput
          obtain ⟨ρ2, a2, cs2, w2, ev2, hf2, m2, s2⟩ := ok2 ρ b (a.put o.dst undef) cs w k hf1 (by rw [hwk]; exact hr) (by rw [hwk]; exact hfresh)
          rw [hwk] at ev2
          exact ⟨ρ2, a2, cs2, w2, ev2, hf2, m2, ArrR.of_steps (Steps.one hsk) s2⟩
        · cases h
      · cases h

def kRegion (P : Program) (K : Kn) (ev : Ev) (rnd : Option Nat) (fn : Nat) (id : Nat) (ops : Array Oper) (fr : Fr) : Bool → Option (Ex × Fr)
  | true => opsK P K ev rnd ops (List.range ops.size) fr
  | false => codeF P ev rnd fn (.region id ops false) fr
def codeK (P : Program) (K : Kn) (ev : Ev) (rnd : Option Nat) (fn : Nat) (c : Code) (fr : Fr) : Option (Ex × Fr) :=
  match c with
  | .region id ops false => kRegion P K ev rnd fn id ops fr (K.has ops)
  | c => codeF P ev rnd fn c fr
theorem codeK_sound (hG : G = P.globals.size) (hmix : P.follows .mixedOrders = true) {K : Kn} (hK : KnOk P G K) {ev : Ev} (he : EvSound P G ev) {rnd : Option Nat} {fn : Nat} {c : Code} {fr fr' : Fr} {e : Ex}
    (h : codeK P K ev rnd fn c fr = some (e, fr')) : CodeOk P G rnd fn c fr e fr' := by
  unfold codeK at h
  split at h
  · rename_i id ops
    cases hh : K.has ops with
    | false =>
      rw [hh] at h
      simp only [kRegion, codeF_eq] at h
      exact codeS_sound hG hmix he h
    | true =>
      rw [hh] at h
      simp only [kRegion] at h
      obtain ⟨ok, _⟩ := opsK_sound hG hK he (fn := fn) h
      intro ρ b a cs w k hf hr hfresh
      obtain ⟨ρ1, a1, cs1, w1, ev1, hf1, m1, s1⟩ := ok ρ b a cs w k hf hr hfresh
      exact ⟨ρ1, a1, cs1, w1, ev1, hf1, m1, ArrR.of_steps (Steps.one stepR_region) s1⟩
  · rw [codeF_eq] at h
    exact codeS_sound hG hmix he h

/-- The evaluator that knows some calls (cs) and some contracts (K). -/
def stepK (P : Program) (K : Kn) (cs : List Cut) (ev : Ev) : Ev := ⟨fun rnd fn c fr => chk fr (codeK P K ev rnd fn c fr), fun f args pc σ => callP P cs ev f args σ pc, fun f ch fr => chkC fr.wk.next (unwF P ev f ch fr)⟩
def evK (P : Program) (K : Kn) (cs : List Cut) (n : Nat) : Ev := Nat.rec evB (fun _ e => stepK P K cs e) n
theorem stepK_sound (hG : G = P.globals.size) (hmix : P.follows .mixedOrders = true) {K : Kn} (hK : KnOk P G K) {cs : List Cut} (hcs : ∀ c ∈ cs, CutGood P G c) {ev : Ev} (he : EvSound P G ev) : EvSound P G (stepK P K cs ev) := by
  have ho := stepO_sound hcs (stepE_sound hG hmix he)
  exact ⟨fun h => codeK_sound hG hmix hK he (chk_some h).1, ho.call, ho.unw, fun h => (chk_some h).2, ho.callN, ho.unwN⟩
theorem evK_sound (hG : G = P.globals.size) (hmix : P.follows .mixedOrders = true) {K : Kn} (hK : KnOk P G K) {cs : List Cut} (hcs : ∀ c ∈ cs, CutGood P G c) : ∀ n : Nat, EvSound P G (evK P K cs n)
  | 0 => ev_sound hG hmix 0
  | n + 1 => stepK_sound hG hmix hK hcs (evK_sound hG hmix hK hcs n)
theorem cut_stepK (hmix : P.follows .mixedOrders = true) {K : Kn} (hK : KnOk P P.globals.size K) {cs : List Cut} (hcs : ∀ c ∈ cs, CutGood P P.globals.size c) {c : Cut} (n : Nat)
    (h : cutChk ((evK P K cs n).call c.f c.args none ⟨ofPairs c.pre, c.nxt⟩) c = true) : CutGood P P.globals.size c :=
  cut_good (evK_sound rfl hmix hK hcs n) h
def givesK (P : Program) (K : Kn) (cs : List Cut) (n f : Nat) (args : List Value) (v : Value) : Bool :=
  match (evK P K cs n).call f args none ⟨.lf, P.globals.size⟩ with
  | some ⟨.ret u, _, _⟩ => veq u v && plain v
  | _ => false
theorem givesK_calls {K : Kn} (hK : KnOk P P.globals.size K) {cs : List Cut} (hcs : ∀ c ∈ cs, CutGood P P.globals.size c) {n f : Nat} {args : List Value} {args' : Array Value} {v : Value} (hmix : P.follows .mixedOrders = true) (h : givesK P K cs n f args v = true) (hA : LR (rho0 P.globals.size) args args'.toList) (w : World) :
    Calls P f args' w fun e w' => e = .returned v ∧ Below w.heap.size w w' := by
  intro css
  unfold givesK at h
  split at h
  · rename_i u pc σ hc
    rw [Bool.and_eq_true] at h
    obtain ⟨h, hv⟩ := h
    have huv : u = v := veq_eq h
    subst huv
    obtain ⟨ρ', frl, cs', w', h1, h2, h3, h4, hlfn, hlk, hld, fnv, hlf, v', hv', hlm, hlr⟩ := (evK_sound (P := P) rfl hmix hK hcs n).call hc (rho0 P.globals.size) args' .normal css w hA (.inl rfl) (rel0 _ w)
      (fun i hi _ => by simp only at hi; simp only [rho0]; rw [if_neg (by omega)])
    have hcs := h3.normal
    subst hcs
    have := plain_eq hv hv'
    subst this
    exact ⟨.returned v', w', frl, ⟨rfl, h1.keep.os, h1.keep.tape, h1.keep.output, h1.keep.size, fun b hb => h1.keep.block b hb fun i o c _ hg => by simp [Tr.get] at hg⟩, h4, hlfn, hlm, hld, hlk, fnv, by rw [hlfn]; exact hlf, hlr⟩
  · cases h
end Go.Sh
