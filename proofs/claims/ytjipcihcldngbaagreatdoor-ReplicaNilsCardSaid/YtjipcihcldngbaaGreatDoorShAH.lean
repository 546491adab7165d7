/- Shadow evaluation, 34: a run in parts: calls that are known already are not run again. -/
import Derived.Test.YtjipcihcldngbaaGreatDoorShAG
import Derived.Test.YtjipcihcldngbaaGreatDoorShAD
namespace Go.Sh
open Go.RowKit
variable {P : Program} {G : Nat}

/-- A call that is known: what of memory it needs, what it leaves. -/
structure Cut where
  f : Nat
  args : List Value
  nxt : Nat
  pre : List (Nat × SObj)
  e : End
  nxt' : Nat
  post : List (Nat × SObj)

def entBeq : List (Value × Value × Nat) → List (Value × Value × Nat) → Bool
  | [], [] => true
  | (a, b, n) :: l, (c, d, m) :: r => veq a c && veq b d && Nat.beq n m && entBeq l r
  | _, _ => false
def valsBeq : List Value → List Value → Bool
  | [], [] => true
  | a :: l, b :: r => veq a b && valsBeq l r
  | _, _ => false
def sobjBeq : SObj → SObj → Bool
  | .cells c e, .cells d f => Nat.beq e f && valsBeq c d
  | .row c e s, .row d f t => Nat.beq e f && Nat.beq s t && valsBeq c d
  | .map a n, .map b m => Nat.beq n m && entBeq a b
  | _, _ => false
def hasAll (h : Tr SObj) : List (Nat × SObj) → Bool
  | [] => true
  | (i, o) :: l => (match h.get i with | some p => sobjBeq p o | none => false) && hasAll h l
def ofPairs : List (Nat × SObj) → Tr SObj
  | [] => .lf
  | (i, o) :: l => (ofPairs l).put i (some o)
def killAll : List (Nat × SObj) → Tr SObj → Tr SObj
  | [], h => h
  | (i, _) :: l, h => killAll l (h.put i none)
def putAll : List (Nat × SObj) → Tr SObj → Tr SObj
  | [], h => h
  | (i, o) :: l, h => (putAll l h).put i (some o)

theorem valsBeq_eq : ∀ {a b : List Value}, valsBeq a b = true → a = b := by
  intro a
  induction a with
  | nil => intro b h; cases b with
    | nil => rfl
    | cons => simp [valsBeq] at h
  | cons x l ih =>
    intro b h
    cases b with
    | nil => simp [valsBeq] at h
    | cons y r =>
      simp only [valsBeq, Bool.and_eq_true] at h
      rw [veq_eq h.1, ih h.2]
theorem entBeq_eq : ∀ {a b : List (Value × Value × Nat)}, entBeq a b = true → a = b := by
  intro a
  induction a with
  | nil => intro b h; cases b with
    | nil => rfl
    | cons => simp [entBeq] at h
  | cons x l ih =>
    obtain ⟨x1, x2, x3⟩ := x
    intro b h
    cases b with
    | nil => simp [entBeq] at h
    | cons y r =>
      obtain ⟨y1, y2, y3⟩ := y
      simp only [entBeq, Bool.and_eq_true] at h
      rw [veq_eq h.1.1.1, veq_eq h.1.1.2, Nat.eq_of_beq_eq_true h.1.2, ih h.2]
theorem sobjBeq_eq {a b : SObj} (h : sobjBeq a b = true) : a = b := by
  cases a <;> cases b <;> simp only [sobjBeq, Bool.and_eq_true] at h <;> try cases h
  · rename_i h1 h2; rw [Nat.eq_of_beq_eq_true h1, valsBeq_eq h2]
  · rename_i h1 h2; rw [Nat.eq_of_beq_eq_true h1.1, Nat.eq_of_beq_eq_true h1.2, valsBeq_eq h2]
  · rename_i h1 h2; rw [Nat.eq_of_beq_eq_true h1, entBeq_eq h2]
theorem hasAll_get {h : Tr SObj} : ∀ {l : List (Nat × SObj)}, hasAll h l = true → ∀ i o, (i, o) ∈ l → h.get i = some o := by
  intro l
  induction l with
  | nil => intro _ i o hm; cases hm
  | cons x l ih =>
    obtain ⟨j, p⟩ := x
    intro hh i o hm
    simp only [hasAll, Bool.and_eq_true] at hh
    rcases List.mem_cons.1 hm with e | hm
    · cases e
      have h1 := hh.1
      split at h1
      · rename_i q hq; rw [hq, sobjBeq_eq h1]
      · cases h1
    · exact ih hh.2 i o hm
theorem ofPairs_get : ∀ {l : List (Nat × SObj)} {i : Nat} {o : SObj}, (ofPairs l).get i = some o → (i, o) ∈ l := by
  intro l
  induction l with
  | nil => intro i o h; simp [ofPairs] at h
  | cons x l ih =>
    obtain ⟨j, p⟩ := x
    intro i o h
    simp only [ofPairs, Tr.get_put] at h
    by_cases e : j = i
    · rw [if_pos e] at h; cases h; subst e; exact List.mem_cons_self
    · rw [if_neg e] at h; exact List.mem_cons_of_mem _ (ih h)
theorem killAll_get : ∀ {l : List (Nat × SObj)} {h : Tr SObj} {i : Nat} {o : SObj}, (killAll l h).get i = some o → h.get i = some o ∧ ∀ p, (i, p) ∉ l := by
  intro l
  induction l with
  | nil => intro h i o hg; exact ⟨hg, fun _ hm => by cases hm⟩
  | cons x l ih =>
    obtain ⟨j, p⟩ := x
    intro h i o hg
    obtain ⟨h1, h2⟩ := ih hg
    rw [Tr.get_put] at h1
    by_cases e : j = i
    · rw [if_pos e] at h1; cases h1
    · rw [if_neg e] at h1
      exact ⟨h1, fun q hm => by
        rcases List.mem_cons.1 hm with e' | hm
        · cases e'; exact e rfl
        · exact h2 q hm⟩
theorem putAll_get : ∀ {l : List (Nat × SObj)} {h : Tr SObj} {i : Nat} {o : SObj}, (putAll l h).get i = some o → (i, o) ∈ l ∨ h.get i = some o := by
  intro l
  induction l with
  | nil => intro h i o hg; exact .inr hg
  | cons x l ih =>
    obtain ⟨j, p⟩ := x
    intro h i o hg
    simp only [putAll, Tr.get_put] at hg
    by_cases e : j = i
    · rw [if_pos e] at hg; cases hg; subst e; exact .inl List.mem_cons_self
    · rw [if_neg e] at hg
      rcases ih hg with hm | hh
      · exact .inl (List.mem_cons_of_mem _ hm)
      · exact .inr hh

def endBeq : End → End → Bool
  | .ret a, .ret b => veq a b
  | _, _ => false
theorem endBeq_eq {a b : End} (h : endBeq a b = true) : a = b := by
  cases a <;> cases b <;> simp only [endBeq] at h
  · rw [veq_eq h]
  all_goals cases h

/-- What is known of it, wherever more memory is. -/
def CutGood (P : Program) (G : Nat) (c : Cut) : Prop :=
  c.nxt ≤ c.nxt' ∧ ∃ h : Tr SObj, (∀ i o, (i, o) ∈ c.post → h.get i = some o) ∧
    ∀ k : Tr SObj, (∀ i o, k.get i = some o → (i, o) ∈ c.pre) → k = ofPairs c.pre → CallOk P G c.f c.args none ⟨k, c.nxt⟩ ⟨c.e, none, ⟨h, c.nxt'⟩⟩

def cutChk (r : Option CR) (c : Cut) : Bool :=
  match r with
  | some ⟨e, none, w⟩ => endBeq e c.e && Nat.beq w.next c.nxt' && hasAll w.heap c.post
  | _ => false

theorem cut_good {ev : Ev} (he : EvSound P G ev) {c : Cut} (h : cutChk (ev.call c.f c.args none ⟨ofPairs c.pre, c.nxt⟩) c = true) : CutGood P G c := by
  unfold cutChk at h
  split at h
  · rename_i e w hc
    simp only [Bool.and_eq_true] at h
    obtain ⟨⟨h1, h2⟩, h3⟩ := h
    have e1 := endBeq_eq h1
    have e2 := Nat.eq_of_beq_eq_true h2
    have hn : c.nxt ≤ w.next := he.callN hc
    refine ⟨by rw [← e2]; exact hn, w.heap, fun i o hm => hasAll_get h3 i o hm, fun k _ hk => ?_⟩
    subst hk
    have := he.call hc
    rw [e1] at this
    have ew : w = ⟨w.heap, c.nxt'⟩ := by rw [← e2]
    rw [ew] at this
    exact this
  · cases h

theorem cut_use {c : Cut} (hc : CutGood P G c) {σ : SW} (hn : c.nxt = σ.next) (hp : hasAll σ.heap c.pre = true) :
    CallOk P G c.f c.args none σ ⟨c.e, none, ⟨putAll c.post (killAll c.pre σ.heap), c.nxt'⟩⟩ := by
  obtain ⟨hle, h, hpost, hcall⟩ := hc
  have hcall := hcall (ofPairs c.pre) (fun i o hg => ofPairs_get hg) rfl
  intro ρ args' kind cs w hA hpc hrel hfr
  have sub : ∀ i o, (ofPairs c.pre).get i = some o → σ.heap.get i = some o := fun i o hg => hasAll_get hp i o (ofPairs_get hg)
  have hrel' : Rel G ρ ⟨ofPairs c.pre, c.nxt⟩ w :=
    ⟨fun i o hg => by have := hrel.live i o (sub i o hg); rw [← hn] at this; exact this,
     fun i j o p b c' d hi hj => hrel.inj i j o p b c' d (sub i o hi) (sub j p hj), hrel.glob, by have := hrel.gn; rw [← hn] at this; exact this⟩
  obtain ⟨ρ', frl, cs', w', h1, h2, h3, h4, h5⟩ := hcall ρ args' kind cs w hA hpc hrel' (fun i hi hj => hfr i (by rw [← hn]; exact hi) hj)
  refine ⟨ρ', frl, cs', w', ?_, h2, h3, h4, h5⟩
  have pre_dom : ∀ i o, (i, o) ∈ c.pre → ∃ p, (ofPairs c.pre).get i = some p := by
    intro i o hm
    have : ∀ (l : List (Nat × SObj)), (i, o) ∈ l → ∃ p, (ofPairs l).get i = some p := by
      intro l
      induction l with
      | nil => intro hm; cases hm
      | cons x l ih =>
        obtain ⟨j, q⟩ := x
        intro hm
        simp only [ofPairs, Tr.get_put]
        by_cases e : j = i
        · exact ⟨q, by rw [if_pos e]⟩
        · rw [if_neg e]
          rcases List.mem_cons.1 hm with e' | hm
          · cases e'; exact absurd rfl e
          · exact ih hm
    exact this _ hm
  -- what lies where in the end
  have cases_ : ∀ i o, (putAll c.post (killAll c.pre σ.heap)).get i = some o →
      h.get i = some o ∨ (σ.heap.get i = some o ∧ ∀ p, (ofPairs c.pre).get i ≠ some p) := by
    intro i o hg
    rcases putAll_get hg with hm | hk
    · exact .inl (hpost i o hm)
    · obtain ⟨a, b⟩ := killAll_get hk
      exact .inr ⟨a, fun p hq => b p (ofPairs_get hq)⟩
  have blk : ∀ i o b d, σ.heap.get i = some o → ρ i = some (b, d) → b < w.heap.size := by
    intro i o b d hg hρ
    obtain ⟨_, b', c', o', e, hw, _⟩ := hrel.live i o hg
    rw [hρ] at e
    cases e
    exact (Array.getElem?_eq_some_iff.1 hw).1
  have old : ∀ i o, σ.heap.get i = some o → ρ' i = ρ i := fun i o hg => h1.only i (.inl (by have := (hrel.live i o hg).1; rw [hn]; exact this))
  refine ⟨h1.ext, fun i hi => h1.only i (by rw [hn]; exact hi), by rw [← hn]; exact hle, ?_, ?_, ⟨?_, ?_, h1.rel.glob, h1.rel.gn⟩, ⟨h1.keep.os, h1.keep.tape, h1.keep.output, h1.keep.size, ?_⟩⟩
  · intro i o hg hi
    rcases cases_ i o hg with hh | ⟨hs, _⟩
    · obtain ⟨p, hq⟩ := h1.lv i o hh (by rw [hn]; exact hi)
      exact ⟨p, sub i p hq⟩
    · exact ⟨o, hs⟩
  · intro i o b d hg hi hρ
    rcases cases_ i o hg with hh | ⟨hs, _⟩
    · rcases h1.nw i o b d hh (by rw [hn]; exact hi) hρ with a | ⟨j, p, d', a1, a2, a3⟩
      · exact .inl a
      · exact .inr ⟨j, p, d', a1, sub j p a2, a3⟩
    · have := (hrel.live i o hs).1; omega
  · intro i o hg
    rcases cases_ i o hg with hh | ⟨hs, hno⟩
    · exact h1.rel.live i o hh
    · obtain ⟨hi, b, d, o', hρ, hw, ho⟩ := hrel.live i o hs
      refine ⟨by have : σ.next ≤ c.nxt' := by rw [← hn]; exact hle
                 exact Nat.lt_of_lt_of_le hi this, b, d, o', h1.ext i _ hρ, ?_, ho.mono h1.ext⟩
      rw [h1.keep.block b (blk i o b d hs hρ) ?_]
      · exact hw
      · intro j p d' _ hj hρj
        have := hrel.inj i j o p b d d' hs (sub j p hj) hρ hρj
        subst this
        exact hno p hj
  · intro i j o p b d d' hi hj hρi hρj
    rcases cases_ i o hi with hi' | ⟨hi', hni⟩ <;> rcases cases_ j p hj with hj' | ⟨hj', hnj⟩
    · exact h1.rel.inj i j o p b d d' hi' hj' hρi hρj
    · exfalso
      rw [old j p hj'] at hρj
      by_cases hlt : i < c.nxt
      · obtain ⟨q, hq⟩ := h1.lv i o hi' hlt
        rw [h1.only i (.inl hlt)] at hρi
        have := hrel.inj i j q p b d d' (sub i q hq) hj' hρi hρj
        subst this
        exact hnj q hq
      · rcases h1.nw i o b d hi' (by simpa using hlt) hρi with a | ⟨k, q, d2, _, a2, a3⟩
        · have := blk j p b d' hj' hρj; omega
        · have := hrel.inj k j q p b d2 d' (sub k q a2) hj' a3 hρj
          subst this
          exact hnj q a2
    · exfalso
      rw [old i o hi'] at hρi
      by_cases hlt : j < c.nxt
      · obtain ⟨q, hq⟩ := h1.lv j p hj' hlt
        rw [h1.only j (.inl hlt)] at hρj
        have := hrel.inj j i q o b d' d (sub j q hq) hi' hρj hρi
        subst this
        exact hni q hq
      · rcases h1.nw j p b d' hj' (by simpa using hlt) hρj with a | ⟨k, q, d2, _, a2, a3⟩
        · have := blk i o b d hi' hρi; omega
        · have := hrel.inj k i q o b d2 d (sub k q a2) hi' a3 hρi
          subst this
          exact hni q a2
    · rw [old i o hi'] at hρi
      rw [old j p hj'] at hρj
      exact hrel.inj i j o p b d d' hi' hj' hρi hρj
  · intro b hb hno
    exact h1.keep.block b hb fun i o d hi hg => hno i o d hi (sub i o hg)

/-! ### The evaluator that knows some calls -/
def fits (c : Cut) (f : Nat) (args : List Value) (σ : SW) : Bool :=
  Nat.beq c.f f && Nat.beq c.nxt σ.next && (valsBeq c.args args && hasAll σ.heap c.pre)
def findC (f : Nat) (args : List Value) (σ : SW) : List Cut → Option Cut
  | [] => none
  | c :: l => bif fits c f args σ then some c else findC f args σ l
theorem findC_some {f : Nat} {args : List Value} {σ : SW} : ∀ {l : List Cut} {c : Cut}, findC f args σ l = some c → c ∈ l ∧ fits c f args σ = true := by
  intro l
  induction l with
  | nil => intro c h; cases h
  | cons x l ih =>
    intro c h
    simp only [findC] at h
    cases hx : fits x f args σ with
    | true => rw [hx] at h; cases h; exact ⟨List.mem_cons_self, hx⟩
    | false => rw [hx] at h; obtain ⟨a, b⟩ := ih h; exact ⟨List.mem_cons_of_mem _ a, b⟩
def callC (P : Program) (ev : Ev) (f : Nat) (args : List Value) (pc : Option (List PanicEntry)) (σ : SW) : Option Cut → Option CR
  | some c => some ⟨c.e, none, ⟨putAll c.post (killAll c.pre σ.heap), c.nxt'⟩⟩
  | none => chkC σ.next (callF P ev f args pc σ)
def callP (P : Program) (cs : List Cut) (ev : Ev) (f : Nat) (args : List Value) (σ : SW) (pc : Option (List PanicEntry)) : Option CR :=
  match pc with
  | none => callC P ev f args none σ (findC f args σ cs)
  | some x => chkC σ.next (callF P ev f args (some x) σ)
def stepO (P : Program) (cs : List Cut) (ev : Ev) : Ev := ⟨fun rnd fn c fr => chk fr (codeF P ev rnd fn c fr), fun f args pc σ => callP P cs ev f args σ pc, fun f ch fr => chkC fr.wk.next (unwF P ev f ch fr)⟩
def evO (P : Program) (cs : List Cut) (n : Nat) : Ev := Nat.rec evB (fun _ e => stepO P cs e) n

theorem stepO_sound {cs : List Cut} (hcs : ∀ c ∈ cs, CutGood P G c) {ev : Ev} (he : EvSound P G (stepE P ev)) : EvSound P G (stepO P cs ev) := by
  rw [← stepF_eq] at he
  have key : ∀ {f args pc σ r}, callP P cs ev f args σ pc = some r → (stepF P ev).call f args pc σ = some r ∨
      (pc = none ∧ ∃ c, CutGood P G c ∧ fits c f args σ = true ∧ r = ⟨c.e, none, ⟨putAll c.post (killAll c.pre σ.heap), c.nxt'⟩⟩) := by
    intro f args pc σ r h
    unfold callP at h
    cases pc with
    | some x => exact .inl h
    | none =>
      simp only at h
      cases hf : findC f args σ cs with
      | none => rw [hf] at h; exact .inl h
      | some c =>
        rw [hf] at h
        obtain ⟨a, b⟩ := findC_some hf
        simp only [callC, Option.some.injEq] at h
        exact .inr ⟨rfl, c, hcs c a, b, h.symm⟩
  refine ⟨he.code, ?_, he.unw, he.codeN, ?_, he.unwN⟩
  · intro f args pc σ r h
    rcases key h with h | ⟨rfl, c, hg, hf, rfl⟩
    · exact he.call h
    · simp only [fits, Bool.and_eq_true] at hf
      obtain ⟨⟨h1, h2⟩, h3, h4⟩ := hf
      have := cut_use hg (Nat.eq_of_beq_eq_true h2) h4
      rw [Nat.eq_of_beq_eq_true h1, valsBeq_eq h3] at this
      exact this
  · intro f args pc σ r h
    rcases key h with h | ⟨rfl, c, hg, hf, rfl⟩
    · exact he.callN h
    · simp only [fits, Bool.and_eq_true] at hf
      obtain ⟨⟨h1, h2⟩, h3, h4⟩ := hf
      rw [← Nat.eq_of_beq_eq_true h2]
      exact hg.1
theorem evO_sound (hG : G = P.globals.size) (hmix : P.follows .mixedOrders = true) {cs : List Cut} (hcs : ∀ c ∈ cs, CutGood P G c) : ∀ n : Nat, EvSound P G (evO P cs n)
  | 0 => ev_sound hG hmix 0
  | n + 1 => stepO_sound hcs (stepE_sound hG hmix (evO_sound hG hmix hcs n))

/-- A call more is known. -/
theorem cut_step (hmix : P.follows .mixedOrders = true) {cs : List Cut} (hcs : ∀ c ∈ cs, CutGood P P.globals.size c) {c : Cut} (n : Nat)
    (h : cutChk ((evO P cs n).call c.f c.args none ⟨ofPairs c.pre, c.nxt⟩) c = true) : CutGood P P.globals.size c :=
  cut_good (evO_sound rfl hmix hcs n) h
theorem cuts_nil : ∀ c ∈ ([] : List Cut), CutGood P G c := fun _ h => by cases h
theorem cuts_cons {c : Cut} {cs : List Cut} (h : CutGood P G c) (k : ∀ c ∈ cs, CutGood P G c) : ∀ x ∈ c :: cs, CutGood P G x := fun x hx => by
  rcases List.mem_cons.1 hx with rfl | hx
  · exact h
  · exact k x hx

def givesO (P : Program) (cs : List Cut) (n f : Nat) (args : List Value) (v : Value) : Bool :=
  match (evO P cs n).call f args none ⟨.lf, P.globals.size⟩ with
  | some ⟨.ret u, _, _⟩ => veq u v && plain v
  | _ => false

theorem givesO_calls {cs : List Cut} (hcs : ∀ c ∈ cs, CutGood P P.globals.size c) {n f : Nat} {args : List Value} {args' : Array Value} {v : Value} (hmix : P.follows .mixedOrders = true) (h : givesO P cs n f args v = true) (hA : LR (rho0 P.globals.size) args args'.toList) (w : World) :
    Calls P f args' w fun e w' => e = .returned v ∧ Below w.heap.size w w' := by
  intro css
  unfold givesO at h
  split at h
  · rename_i u pc σ hc
    rw [Bool.and_eq_true] at h
    obtain ⟨h, hv⟩ := h
    have huv : u = v := veq_eq h
    subst huv
    obtain ⟨ρ', frl, cs', w', h1, h2, h3, h4, hlfn, hlk, hld, fnv, hlf, v', hv', hlm, hlr⟩ := (evO_sound (P := P) rfl hmix hcs n).call hc (rho0 P.globals.size) args' .normal css w hA (.inl rfl) (rel0 _ w)
      (fun i hi _ => by simp only at hi; simp only [rho0]; rw [if_neg (by omega)])
    have hcs := h3.normal
    subst hcs
    have := plain_eq hv hv'
    subst this
    exact ⟨.returned v', w', frl, ⟨rfl, h1.keep.os, h1.keep.tape, h1.keep.output, h1.keep.size, fun b hb => h1.keep.block b hb fun i o c _ hg => by simp [Tr.get] at hg⟩, h4, hlfn, hlm, hld, hlk, fnv, by rw [hlfn]; exact hlf, hlr⟩
  · cases h
end Go.Sh
