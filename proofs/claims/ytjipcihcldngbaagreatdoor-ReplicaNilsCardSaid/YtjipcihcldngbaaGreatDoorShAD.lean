/- Shadow evaluation, 30: a run over arguments of which nothing is known. -/
import Derived.Test.YtjipcihcldngbaaGreatDoorShAC
import Derived.ProofKit
namespace Go.Sh
open Go.RowKit
variable {P : Program} {ρ : Rho} {G : Nat}

theorem cell_one {w : World} {r : Reach} {base : Nat} {t : TypeId} {v : Value} (h : Cell.okWide P w r base t v) : v.oneCell' = true := by
  cases v with
  | agg cs => exfalso; unfold Cell.okWide Cell.ok at h; cases hu : P.underlying t with
    | none => rw [hu] at h; exact h
    | some d => rw [hu] at h; cases d <;> exact h
  | tuple cs => exfalso; unfold Cell.okWide Cell.ok at h; cases hu : P.underlying t with
    | none => rw [hu] at h; exact h
    | some d => rw [hu] at h; cases d <;> exact h
  | _ => rfl

/-- What stands for a value of the type. -/
def anyOf (P : Program) (t : TypeId) : Value :=
  match P.underlying t with
  | some (.struct _) | some (.array _ _) => .agg ⟨List.replicate (P.cellsOf t) (.chan none)⟩
  | _ => .chan none

theorem any_cells {l : List Value} (h : ∀ (j : Nat) v, l[j]? = some v → v.oneCell' = true) : LR ρ (List.replicate l.length (.chan none)) l := by
  refine ⟨by simp, fun j v v' hv hv' => ?_⟩
  rw [List.getElem?_replicate] at hv
  split at hv
  · cases hv; exact .any _ (h j v' hv')
  · cases hv

theorem anyOf_R {w : World} {r : Reach} {base : Nat} {t : TypeId} {v : Value} (h : Value.okWide P w r base t v) : VR ρ (anyOf P t) v := by
  unfold Value.okWide at h
  unfold anyOf
  split at h
  · rename_i fs hu
    simp only [hu]
    obtain ⟨cs, rfl, hsz, ts, _, _, hall⟩ := h
    have := any_cells (ρ := ρ) (l := cs.toList) (fun j v hv => by
      obtain ⟨u, _, hc⟩ := hall j v (by simpa using hv)
      exact cell_one hc)
    rw [show cs.toList.length = P.cellsOf t by simpa using hsz] at this
    exact VR.of_agg this
  · rename_i n e hu
    simp only [hu]
    obtain ⟨cs, rfl, hsz, ts, _, _, hall⟩ := h
    have := any_cells (ρ := ρ) (l := cs.toList) (fun j v hv => by
      obtain ⟨u, _, hc⟩ := hall j v (by simpa using hv)
      exact cell_one hc)
    rw [show cs.toList.length = P.cellsOf t by simpa using hsz] at this
    exact VR.of_agg this
  · rename_i h1 h2
    have : (match P.underlying t with
      | some (.struct _) | some (.array _ _) => Value.agg ⟨List.replicate (P.cellsOf t) (.chan none)⟩
      | _ => .chan none) = .chan none := by
      split
      · rename_i fs hu; exact absurd hu (h1 fs)
      · rename_i n e hu; exact absurd hu (h2 n e)
      · rfl
    rw [this]
    exact .any _ (cell_one h)

theorem any_args {w : World} {r : Reach} {base : Nat} {ps : Array TypeId} {args : Array Value} (hl : args.size = ps.size) (h : ∀ (j : Nat) t v, ps[j]? = some t → args[j]? = some v → Value.okWide P w r base t v) :
    LR ρ (ps.toList.map (anyOf P)) args.toList := by
  refine ⟨by simp [hl], fun j v v' hv hv' => ?_⟩
  rw [List.getElem?_map, Option.map_eq_some_iff] at hv
  obtain ⟨t, ht, rfl⟩ := hv
  exact anyOf_R (h j t v' (by simpa using ht) (by simpa using hv'))

/-- What is checked by the kernel. -/
def gives (P : Program) (n f : Nat) (args : List Value) (v : Value) : Bool :=
  match (ev P n).call f args none ⟨.lf, P.globals.size⟩ with
  | some ⟨.ret u, _, _⟩ => veq u v && plain v
  | _ => false

theorem gives_calls {n f : Nat} {args : List Value} {args' : Array Value} {v : Value} (hmix : P.follows .mixedOrders = true) (h : gives P n f args v = true) (hA : LR (rho0 P.globals.size) args args'.toList) (w : World) :
    Calls P f args' w fun e w' => e = .returned v ∧ Below w.heap.size w w' := by
  intro cs
  unfold gives at h
  split at h
  · rename_i u pc σ hc
    rw [Bool.and_eq_true] at h
    obtain ⟨h, hv⟩ := h
    have huv : u = v := veq_eq h
    subst huv
    obtain ⟨ρ', frl, cs', w', h1, h2, h3, h4, hlfn, hlk, hld, fnv, hlf, v', hv', hlm, hlr⟩ := (ev_sound (P := P) rfl hmix n).call hc (rho0 P.globals.size) args' .normal cs w hA (.inl rfl) (rel0 _ w)
      (fun i hi _ => by simp only at hi; simp only [rho0]; rw [if_neg (by omega)])
    have hcs := h3.normal
    subst hcs
    have := plain_eq hv hv'
    subst this
    exact ⟨.returned v', w', frl, ⟨rfl, h1.keep.os, h1.keep.tape, h1.keep.output, h1.keep.size, fun b hb => h1.keep.block b hb fun i o c _ hg => by simp [Tr.get] at hg⟩, h4, hlfn, hlm, hld, hlk, fnv, by rw [hlfn]; exact hlf, hlr⟩
  · cases h

end Go.Sh
