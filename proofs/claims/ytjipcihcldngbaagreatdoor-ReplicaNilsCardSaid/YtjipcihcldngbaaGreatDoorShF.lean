/- Shadow evaluation, 6: what needs no memory is right: the operations. -/
import Derived.Test.YtjipcihcldngbaaGreatDoorShE
namespace Go.Sh
variable {P : Program} {ρ : Rho}

def PartsR (ρ : Rho) : List (Nat × Value) → List (Nat × Value) → Prop
  | [], [] => True
  | a :: l, b :: m => a.1 = b.1 ∧ VR ρ a.2 b.2 ∧ PartsR ρ l m
  | _, _ => False

theorem evParts_R {e : Env} {f : Operand → Value} (he : EnvR ρ e f) : ∀ {l : List (Nat × Operand)} {vs : List (Nat × Value)}, evParts e l = some vs → PartsR ρ vs (l.map fun x => (x.1, f x.2))
  | [], vs, h => by simp [evParts] at h; subst h; trivial
  | (i, x) :: r, vs, h => by
    simp only [evParts] at h
    split at h
    · rename_i v l hv hl
      cases h
      exact ⟨rfl, he x v hv, evParts_R he hl⟩
    · cases h

theorem lay_length {c : List Value} {off : Nat} {vs : List Value} (h : off + vs.length ≤ c.length) : (lay c off vs).length = c.length := by
  simp [lay]; omega
theorem LR.lay {c c' vs vs' : List Value} (hc : LR ρ c c') (hv : LR ρ vs vs') (off : Nat) : LR ρ (lay c off vs) (lay c' off vs') := by
  unfold Sh.lay
  rw [hv.len]
  exact (hc.take off).append (hv.append (hc.drop _))

theorem lay_get {c : List Value} {p : Nat} {vs : List Value} (h : p + vs.length ≤ c.length) (j : Nat) :
    (lay c p vs)[j]? = if j < p then c[j]? else if j < p + vs.length then vs[j - p]? else c[j]? := by
  unfold lay
  have hl : (c.take p).length = p := by simp; omega
  by_cases h1 : j < p
  · rw [if_pos h1, List.getElem?_append_left (by omega), List.getElem?_take, if_pos h1]
  · rw [if_neg h1, List.getElem?_append_right (by omega), hl]
    by_cases h2 : j < p + vs.length
    · rw [if_pos h2, List.getElem?_append_left (by omega)]
    · rw [if_neg h2, List.getElem?_append_right (by omega), List.getElem?_drop]
      congr 1; omega
theorem lay_cons {c : List Value} {p : Nat} {v : Value} {r : List Value} (h : p + (r.length + 1) ≤ c.length) : lay (c.set p v) (p + 1) r = lay c p (v :: r) := by
  apply List.ext_getElem?
  intro j
  rw [lay_get (by simp; omega), lay_get (by simpa using h), List.getElem?_set]
  simp only [List.length_cons]
  by_cases h1 : j < p
  · rw [if_pos (by omega), if_neg (by omega), if_pos h1]
  · rw [if_neg h1]
    by_cases h2 : j = p
    · subst h2; rw [if_pos (by omega), if_pos rfl, if_pos (by omega), if_pos (by omega)]; simp
    · rw [if_neg (by omega)]
      by_cases h3 : j < p + 1 + r.length
      · rw [if_pos h3, if_pos (by omega)]
        rw [show j - p = (j - (p + 1)) + 1 by omega, List.getElem?_cons_succ]
      · rw [if_neg h3, if_neg (by omega), if_neg (by omega)]

theorem fold_lay (off : Nat) : ∀ (vs : List Value) (k : Nat) (c : Array Value), off + k + vs.length ≤ c.size →
    ((vs.zipIdx k).foldl (fun (cs : Array Value) (x : Value × Nat) => cs.setIfInBounds (off + x.2) x.1) c).toList = lay c.toList (off + k) vs
  | [], k, c, h => by simp [lay]
  | v :: r, k, c, h => by
    simp only [List.length_cons] at h
    simp only [List.zipIdx_cons, List.foldl_cons]
    rw [fold_lay off r (k + 1) _ (by simp; omega), Array.toList_setIfInBounds, show off + (k + 1) = off + k + 1 by omega, lay_cons (by simp; omega)]

theorem fillS_R {place : Nat → Option (Nat × Nat)} : ∀ {l l' : List (Nat × Value)} {c c' : List Value} {d : List Value}, PartsR ρ l l' → LR ρ c c' → fillS place l c = some d →
    ∃ d', Instr.fill place ⟨c'⟩ l' = some ⟨d'⟩ ∧ LR ρ d d'
  | [], [], c, c', d, _, hc, h => by simp only [fillS] at h; cases h; exact ⟨c', rfl, hc⟩
  | (i, v) :: r, (i', v') :: r', c, c', d, hp, hc, h => by
    obtain ⟨e, hv, hr⟩ := hp
    simp only at e hv
    subst e
    simp only [fillS] at h
    simp only [Instr.fill]
    cases hpl : place i with
    | none => simp [hpl] at h
    | some os =>
      obtain ⟨off, size⟩ := os
      simp only [hpl] at h ⊢
      obtain ⟨hb, h⟩ := cond_some h
      simp only [Bool.and_eq_true] at hb
      have h1 := Nat.eq_of_beq_eq_true hb.1
      have h2 := Nat.le_of_ble_eq_true hb.2
      have hvc := hv.cells
      have hlen : v'.cells.size = size := by have := hvc.len; simp at this h1; omega
      have hle : off + v'.cells.toList.length ≤ c'.length := by rw [← hvc.len, ← hc.len]; exact h2
      rw [if_neg (by simp at hle ⊢; omega)]
      have hf := fold_lay off v'.cells.toList 0 ⟨c'⟩ (by simpa using hle)
      obtain ⟨d', hd, hR⟩ := fillS_R hr (hc.lay hvc off) h
      refine ⟨d', ?_, hR⟩
      rw [← hd]
      congr 1
      apply Array.ext'
      simp only [Nat.add_zero] at hf
      rw [← Array.foldl_toList]
      simpa using hf
  | [], _ :: _, _, _, _, hp, _, _ => hp.elim
  | _ :: _, [], _, _, _, hp, _, _ => hp.elim

theorem zeroC_some {t : TypeId} {z : List Value} (h : zeroC P t = some z) : ∃ i zv, P.info? t = some i ∧ i.zero = some zv ∧ zv.cells = ⟨z⟩ ∧ z.length = i.size ∧ LR ρ z z := by
  unfold zeroC at h
  split at h
  · rename_i i hi
    split at h
    · rename_i zv hz
      obtain ⟨hb, h⟩ := cond_some h
      cases h
      simp only [Bool.and_eq_true, List.all_eq_true] at hb
      refine ⟨i, zv, inf_some hi, hz, rfl, Nat.eq_of_beq_eq_true hb.2, rfl, fun j v v' hv hv' => ?_⟩
      rw [hv] at hv'; cases hv'
      exact plain_refl ρ (hb.1 v (List.mem_of_getElem? hv))
    · cases h
  · cases h

theorem zeroC_plain {t : TypeId} {z : List Value} (h : zeroC P t = some z) : ∀ v ∈ z, plain v = true := by
  unfold zeroC at h
  split at h
  · split at h
    · obtain ⟨hb, h⟩ := cond_some h
      cases h
      simp only [Bool.and_eq_true, List.all_eq_true] at hb
      exact hb.1
    · cases h
  · cases h
theorem run_zeroC {t : TypeId} {z : List Value} (h : zeroC P t = some z) (w : World) : ∃ zv, (zeroValue t).run P w = .ok zv w ∧ zv.cells = ⟨z⟩ := by
  obtain ⟨i, zv, hi, hz, hc, _, _⟩ := zeroC_some (ρ := fun _ => none) h
  exact ⟨zv, by simp [zeroValue, typeInfo, hi, hz], hc⟩
theorem run_sizeOf' {t : TypeId} {i : TypeInfo} (h : inf P t = some i) (w : World) : (sizeOf t).run P w = .ok i.size w := by simp [sizeOf, typeInfo, inf_some h]

theorem places_sound (w : World) : ∀ (l : List Field) {ps : List (Nat × Nat)}, (l.mapM fun f => (inf P f.type).map fun i => (f.offset, i.size)) = some ps →
    (l.mapM fun (f : Field) => (Prod.mk f.offset <$> sizeOf f.type : Sem (Nat × Nat))).run P w = .ok ps w
  | [], ps, h => by simp at h; subst h; simp
  | f :: r, ps, h => by
    rw [List.mapM_cons] at h ⊢
    simp only [Option.bind_eq_bind, Option.pure_def, Option.bind_eq_some_iff, Option.map_eq_some_iff] at h
    obtain ⟨x, ⟨i, hi, rfl⟩, y, hy, h⟩ := h
    cases h
    have ih := places_sound w r hy
    simp [run_sizeOf' hi, ih]

theorem buildS_sound {t : TypeId} {l l' : List (Nat × Value)} {v : Value} (hp : PartsR ρ l l') (h : buildS P t l = some v) :
    ∃ v', VR ρ v v' ∧ ∀ w, (Instr.build t ⟨l'⟩).run P w = .ok v' w := by
  unfold buildS at h
  split at h
  · rename_i z fields hz hu
    split at h
    · rename_i places hpl
      simp only [Option.map_eq_some_iff] at h
      obtain ⟨d, hd, rfl⟩ := h
      obtain ⟨i, zv, hi, hzv, hc, _, hzR⟩ := zeroC_some (ρ := ρ) hz
      obtain ⟨d', hd', hR⟩ := fillS_R hp hzR hd
      refine ⟨_, VR.of_agg hR, fun w => ?_⟩
      have hpm := places_sound (P := P) w fields.toList hpl
      have hfill : Instr.fill (fun i => places[i]?) zv.cells l' = some ⟨d'⟩ := by rw [hc]; exact hd'
      have hmap : (fields.mapM fun (f : Field) => (Prod.mk f.offset <$> sizeOf f.type : Sem (Nat × Nat))).run P w = .ok ⟨places⟩ w := by
        rw [Array.mapM_eq_mapM_toList, Sem.run_map, hpm]; rfl
      simp only [Instr.build, zeroValue, typeInfo, Sem.run_bind, run_program, Result.andThen_ok, hi, hzv, run_underlying (und_some hu), Sem.run_pure, bind_pure_comp, hmap]
      simp [hfill]
    · cases h
  · rename_i z n el hz hu
    split at h
    · rename_i ei hei
      simp only [Option.map_eq_some_iff] at h
      obtain ⟨d, hd, rfl⟩ := h
      obtain ⟨i, zv, hi, hzv, hc, _, hzR⟩ := zeroC_some (ρ := ρ) hz
      obtain ⟨d', hd', hR⟩ := fillS_R hp hzR hd
      refine ⟨_, VR.of_agg hR, fun w => ?_⟩
      have hfill : Instr.fill (fun k => some (k * ei.size, ei.size)) zv.cells l' = some ⟨d'⟩ := by rw [hc]; exact hd'
      simp only [Instr.build, zeroValue, typeInfo, Sem.run_bind, run_program, Result.andThen_ok, hi, hzv, run_underlying (und_some hu), Sem.run_pure, run_sizeOf' hei]
      simp [hfill]
    · cases h
  · cases h

end Go.Sh
