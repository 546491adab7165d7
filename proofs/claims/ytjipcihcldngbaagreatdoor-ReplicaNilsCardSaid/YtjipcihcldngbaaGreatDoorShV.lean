/- Shadow evaluation, 22: the trace of a region that draws its order. -/
import Derived.Test.YtjipcihcldngbaaGreatDoorShU
namespace Go.Sh
variable {P : Program} {ρ : Rho} {G : Nat}

def EntOk (P : Program) (ev : Ev) (rnd : Option Nat) (ops : Array Oper) (i : Nat) (pan : Option Nat) (x : En) : Prop :=
  ops[i]? = some x.o ∧
  match x.k with
  | .blk => x.fr' = x.fr ∧ ∃ p, pan = some p ∧ bef ops i p = true
  | .off => wantedS ops x.o (x.fr.at ops x.o) = some false ∧ x.v = undef ∧ x.fr.put x.o.dst undef = some x.fr'
  | .pure => wantedS ops x.o (x.fr.at ops x.o) = some true ∧ cls P x.o = .pure ∧ pureOp P ((x.fr.at ops x.o).env P) x.o = some x.v ∧ x.fr.put x.o.dst x.v = some x.fr'
  | .read => wantedS ops x.o (x.fr.at ops x.o) = some true ∧ cls P x.o = .read ∧ x.fr.put x.o.dst x.v = some x.fr'
  | .alloc ob mk => pan = none ∧ wantedS ops x.o (x.fr.at ops x.o) = some true ∧ cls P x.o = .alloc ∧ allocOp P ((x.fr.at ops x.o).env P) x.o = some (ob, mk) ∧ x.v = mk x.fr.wk.next ∧
      ({ x.fr with wk := x.fr.wk.push ob } : Fr).put x.o.dst x.v = some x.fr'
  | .eff => pan = none ∧ wantedS ops x.o (x.fr.at ops x.o) = some true ∧ cls P x.o = .eff ∧ ∃ f, chk (x.fr.at ops x.o) (effOp P ev rnd x.o (x.fr.at ops x.o)) = some (.normal, f) ∧
      (∀ d, x.o.dst = some d → f.tm.get d = some x.v) ∧ ({ f with tm := x.fr.tm, n := x.fr.n } : Fr).put x.o.dst x.v = some x.fr'
  | .pan ch => pan = none ∧ wantedS ops x.o (x.fr.at ops x.o) = some true ∧ cls P x.o = .eff ∧ ∃ f, chk (x.fr.at ops x.o) (effOp P ev rnd x.o (x.fr.at ops x.o)) = some (.panic ch, f) ∧ x.fr' = { f with tm := x.fr.tm, n := x.fr.n }

def nextPan (i : Nat) (pan : Option Nat) : Kd → Option Nat
  | .pan _ => some i
  | _ => pan

def TOk (P : Program) (ev : Ev) (rnd : Option Nat) (ops : Array Oper) : Nat → Fr → Option Nat → List En → Prop
  | _, _, _, [] => True
  | i, fr, pan, x :: T => x.fr = fr ∧ EntOk P ev rnd ops i pan x ∧ TOk P ev rnd ops (i + 1) x.fr' (nextPan i pan x.k) T

theorem trace_spec {ev : Ev} {rnd : Option Nat} {ops : Array Oper} : ∀ (l : List Oper) (i : Nat) (fr : Fr) (hp : SW) (pan : Option Nat) {T : List En}, (∀ j, l[j]? = ops[i + j]?) →
    trace P ev rnd ops (befs ops) l i fr hp pan = some T → T.length = l.length ∧ TOk P ev rnd ops i fr pan T
  | [], i, fr, hp, pan, T, _, h => by simp only [trace] at h; cases h; exact ⟨rfl, trivial⟩
  | o :: rest, i, fr, hp, pan, T, hl, h => by
    have ho : ops[i]? = some o := by have := hl 0; simpa using this.symm
    have hl' : ∀ j, rest[j]? = ops[i + 1 + j]? := fun j => by
      have := hl (j + 1); simp only [List.getElem?_cons_succ] at this; rw [this]; congr 1; omega
    unfold trace at h
    simp only at h
    cases hb : blockedS (befs ops) i pan with
    | true =>
      rw [hb, cond_true] at h
      split at h
      · rename_i T' hT
        cases h
        obtain ⟨h1, h2⟩ := trace_spec rest (i + 1) fr hp pan hl' hT
        refine ⟨by simp [h1], rfl, ⟨ho, rfl, ?_⟩, h2⟩
        cases pan with
        | none => cases hb
        | some p => exact ⟨p, rfl, hb⟩
      · cases h
    | false =>
      rw [hb, cond_false] at h
      split at h
      · cases h
      · rename_i hw
        split at h
        · cases h
        · rename_i f hput
          split at h
          · rename_i T' hT
            cases h
            obtain ⟨h1, h2⟩ := trace_spec rest (i + 1) f hp pan hl' hT
            exact ⟨by simp [h1], rfl, ⟨ho, hw, rfl, hput⟩, h2⟩
          · cases h
      · rename_i hw
        split at h
        · rename_i hc
          split at h
          · cases h
          · rename_i v hv
            split at h
            · cases h
            · rename_i f hput
              split at h
              · rename_i T' hT
                cases h
                obtain ⟨h1, h2⟩ := trace_spec rest (i + 1) f hp pan hl' hT
                exact ⟨by simp [h1], rfl, ⟨ho, hw, hc, hv, hput⟩, h2⟩
              · cases h
        · rename_i hc
          split at h
          · cases h
          · rename_i v hv
            split at h
            · cases h
            · rename_i f hput
              split at h
              · rename_i T' hT
                cases h
                obtain ⟨h1, h2⟩ := trace_spec rest (i + 1) f hp pan hl' hT
                exact ⟨by simp [h1], rfl, ⟨ho, hw, hc, hput⟩, h2⟩
              · cases h
        · rename_i hc
          split at h
          · rename_i ob mk hal
            split at h
            · cases h
            · rename_i f hput
              split at h
              · rename_i T' hT
                cases h
                obtain ⟨h1, h2⟩ := trace_spec rest (i + 1) f f.wk none hl' hT
                exact ⟨by simp [h1], rfl, ⟨ho, rfl, hw, hc, hal, rfl, hput⟩, h2⟩
              · cases h
          · cases h
        · rename_i hc
          split at h
          · rename_i f hf
            split at h
            · cases h
            · rename_i v hv
              split at h
              · cases h
              · rename_i f' hput
                split at h
                · rename_i T' hT
                  cases h
                  obtain ⟨h1, h2⟩ := trace_spec rest (i + 1) f' f'.wk none hl' hT
                  refine ⟨by simp [h1], rfl, ⟨ho, rfl, hw, hc, f, hf, fun d hd => ?_, hput⟩, h2⟩
                  rw [hd] at hv; exact hv
                · cases h
          · rename_i ch f hf
            split at h
            · rename_i T' hT
              cases h
              obtain ⟨h1, h2⟩ := trace_spec rest (i + 1) { f with tm := fr.tm, n := fr.n } fr.wk (some i) hl' hT
              exact ⟨by simp [h1], rfl, ⟨ho, rfl, hw, hc, f, hf, rfl⟩, h2⟩
            · cases h
          · cases h

def frA (fr0 : Fr) (T : List En) (j : Nat) : Fr := match T[j]? with | some x => x.fr | none => lastFr fr0 T

theorem TOk.chain {ev : Ev} {rnd : Option Nat} {ops : Array Oper} : ∀ {i : Nat} {fr : Fr} {pan : Option Nat} {T : List En}, TOk P ev rnd ops i fr pan T → ∀ (j : Nat) (x : En), T[j]? = some x → frA fr T (j + 1) = x.fr'
  | i, fr, pan, [], _, j, x, h => by simp at h
  | i, fr, pan, y :: T, h, 0, x, hx => by
    simp at hx; subst hx
    obtain ⟨_, _, hT⟩ := h
    cases T with
    | nil => rfl
    | cons z T => exact hT.1
  | i, fr, pan, y :: T, h, j + 1, x, hx => by
    have := TOk.chain h.2.2 j x (by simpa using hx)
    rw [← this]
    unfold frA
    simp only [List.getElem?_cons_succ, lastFr]
theorem TOk.first {ev : Ev} {rnd : Option Nat} {ops : Array Oper} {i : Nat} {fr : Fr} {pan : Option Nat} {T : List En} (h : TOk P ev rnd ops i fr pan T) : frA fr T 0 = fr := by
  cases T with
  | nil => rfl
  | cons x T => exact h.1

theorem TOk.get_some {ev : Ev} {rnd : Option Nat} {ops : Array Oper} : ∀ {i : Nat} {fr : Fr} {q : Nat} {T : List En}, TOk P ev rnd ops i fr (some q) T → ∀ (j : Nat) (x : En), T[j]? = some x → EntOk P ev rnd ops (i + j) (some q) x
  | i, fr, q, [], _, j, x, h => by simp at h
  | i, fr, q, y :: T, h, 0, x, hx => by simp at hx; subst hx; exact h.2.1
  | i, fr, q, y :: T, h, j + 1, x, hx => by
    have hn : nextPan i (some q) y.k = some q := by
      unfold nextPan
      split
      · rename_i ch hk
        have := h.2.1.2
        rw [hk] at this
        exact absurd this.1 (by simp)
      · rfl
    have h2 := h.2.2
    rw [hn] at h2
    have := TOk.get_some h2 j x (by simpa using hx)
    rw [show i + (j + 1) = i + 1 + j by omega]; exact this

theorem TOk.get {ev : Ev} {rnd : Option Nat} {ops : Array Oper} : ∀ {i : Nat} {fr : Fr} {T : List En}, TOk P ev rnd ops i fr none T → ∀ (j : Nat) (x : En), T[j]? = some x →
    (EntOk P ev rnd ops (i + j) none x ∧ ∀ (q : Nat) (y : En) ch, q < j → T[q]? = some y → y.k ≠ .pan ch) ∨ ∃ (q : Nat) (y : En) (ch : List PanicEntry), q < j ∧ T[q]? = some y ∧ y.k = .pan ch ∧ EntOk P ev rnd ops (i + j) (some (i + q)) x
  | i, fr, [], _, j, x, h => by simp at h
  | i, fr, y :: T, h, 0, x, hx => by simp at hx; subst hx; exact .inl ⟨h.2.1, fun q _ _ hq => by omega⟩
  | i, fr, y :: T, h, j + 1, x, hx => by
    have h2 := h.2.2
    have hx' : T[j]? = some x := by simpa using hx
    cases hk : y.k with
    | pan ch =>
      rw [hk] at h2
      have := TOk.get_some (q := i) h2 j x hx'
      exact .inr ⟨0, y, ch, by omega, by simp, hk, by rw [show i + (j + 1) = i + 1 + j by omega]; exact this⟩
    | _ =>
      rw [hk] at h2
      rcases TOk.get h2 j x hx' with ⟨h3, h4⟩ | ⟨q, z, ch, a, b, c, d⟩
      · refine .inl ⟨by rw [show i + (j + 1) = i + 1 + j by omega]; exact h3, fun q z ch hq hz => ?_⟩
        cases q with
        | zero => simp at hz; subst hz; rw [hk]; simp
        | succ q => exact h4 q z ch (by omega) (by simpa using hz)
      · exact .inr ⟨q + 1, z, ch, by omega, by simpa using b, c, by rw [show i + (j + 1) = i + 1 + j by omega, show i + (q + 1) = i + 1 + q by omega]; exact d⟩

end Go.Sh
