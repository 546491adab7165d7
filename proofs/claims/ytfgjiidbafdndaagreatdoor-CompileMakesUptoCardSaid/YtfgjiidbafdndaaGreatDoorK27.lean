/- Shadow evaluation, 6: what needs no memory is right: the operations. -/
import Derived.Test.YtfgjiidbafdndaaGreatDoorK26
namespace Go.Sh
section
variable {P : Program} {ρ : Rho}
def PartsR (ρ : Rho) : List (Nat × Value) → List (Nat × Value) → Prop
 | [], [] => True
 | a :: l, b :: m => a.1 = b.1 ∧ VR ρ a.2 b.2 ∧ PartsR ρ l m
 | _, _ => False
theorem evParts_R {e : Env} {f : Operand → Value} (he : EnvR ρ e f) : ∀ {l : List (Nat × Operand)} {vs : List (Nat × Value)}, evParts e l = some vs → PartsR ρ vs (l.map fun x => (x.1, f x.2))
 | [], vs, h => by simp [evParts] at h; subst h; trivial
 | (i, x) :: r, vs, h => by
  simp only [evParts] at h
  split at h
  ·rename_i v l hv hl
   cases h
   exact ⟨rfl, he x v hv, evParts_R he hl⟩
  ·cases h
theorem lay_length {c : List Value} {off : Nat} {vs : List Value} (h : off + vs.length ≤ c.length) : (lay c off vs).length = c.length := by
 simp [lay]; omega
theorem LR.lay {c c' vs vs' : List Value} (hc : LR ρ c c') (hv : LR ρ vs vs') (off : Nat) : LR ρ (lay c off vs) (lay c' off vs') := by
 unfold Sh.lay
 rw [hv.len]
 exact (hc.take off).append (hv.append (hc.drop _))
theorem lay_get {c : List Value} {p : Nat} {vs : List Value} (h : p + vs.length ≤ c.length) (j : Nat) :
  (lay c p vs)[j]? = if j < p then c[j]? else if j < p + vs.length then vs[j - p]? else c[j]? := by
 unfold lay
 have hl : (c.take p).length = p := by simp; omega
 by_cases h1 : j < p
 ·rw [if_pos h1, List.getElem?_append_left (by omega), List.getElem?_take, if_pos h1]
 ·rw [if_neg h1, List.getElem?_append_right (by omega), hl]
  by_cases h2 : j < p + vs.length
  ·rw [if_pos h2, List.getElem?_append_left (by omega)]
  ·rw [if_neg h2, List.getElem?_append_right (by omega), List.getElem?_drop]
   congr 1; omega
theorem lay_cons {c : List Value} {p : Nat} {v : Value} {r : List Value} (h : p + (r.length + 1) ≤ c.length) : lay (c.set p v) (p + 1) r = lay c p (v :: r) := by
 apply List.ext_getElem?
 intro j
 rw [lay_get (by simp; omega), lay_get (by simpa using h), List.getElem?_set]
 simp only [List.length_cons]
 by_cases h1 : j < p
 ·rw [if_pos (by omega), if_neg (by omega), if_pos h1]
 ·rw [if_neg h1]
  by_cases h2 : j = p
  ·subst h2; rw [if_pos (by omega), if_pos rfl, if_pos (by omega), if_pos (by omega)]; simp
  ·rw [if_neg (by omega)]
   by_cases h3 : j < p + 1 + r.length
   ·rw [if_pos h3, if_pos (by omega)]
    rw [show j - p = (j - (p + 1)) + 1 by omega, List.getElem?_cons_succ]
   ·rw [if_neg h3, if_neg (by omega), if_neg (by omega)]
theorem fold_lay (off : Nat) : ∀ (vs : List Value) (k : Nat) (c : Array Value), off + k + vs.length ≤ c.size →
  ((vs.zipIdx k).foldl (fun (cs : Array Value) (x : Value × Nat) => cs.setIfInBounds (off + x.2) x.1) c).toList = lay c.toList (off + k) vs
 | [], k, c, h => by simp [lay]
 | v :: r, k, c, h => by
  simp only [List.length_cons] at h
  simp only [List.zipIdx_cons, List.foldl_cons]
  rw [fold_lay off r (k + 1) _ (by simp; omega), Array.toList_setIfInBounds, show off + (k + 1) = off + k + 1 by omega, lay_cons (by simp; omega)]
theorem fillS_R {place : Nat → Option (Nat × Nat)} : ∀ {l l' : List (Nat × Value)} {c c' : List Value} {d : List Value}, PartsR ρ l l' → LR ρ c c' → fillS place l c = some d →
  ∃ d', Instr.fill place ⟨c'⟩ l' = some ⟨d'⟩ ∧ LR ρ d d'
 | [], [], c, c', d, _, hc, h => by simp only [fillS] at h; cases h; exact ⟨c', rfl, hc⟩
 | (i, v) :: r, (i', v') :: r', c, c', d, hp, hc, h => by
  obtain ⟨e, hv, hr⟩ := hp
  simp only at e hv
  subst e
  simp only [fillS] at h
  simp only [Instr.fill]
  cases hpl : place i with
  | none => simp [hpl] at h
  | some os =>
   obtain ⟨off, size⟩ := os
   simp only [hpl] at h ⊢
   obtain ⟨hb, h⟩ := cond_some h
   simp only [Bool.and_eq_true] at hb
   have h1 := Nat.eq_of_beq_eq_true hb.1
   have h2 := Nat.le_of_ble_eq_true hb.2
   have hvc := hv.cells
   have hlen : v'.cells.size = size := by have := hvc.len; simp at this h1; omega
   have hle : off + v'.cells.toList.length ≤ c'.length := by rw [← hvc.len, ← hc.len]; exact h2
   rw [if_neg (by simp at hle ⊢; omega)]
   have hf := fold_lay off v'.cells.toList 0 ⟨c'⟩ (by simpa using hle)
   obtain ⟨d', hd, hR⟩ := fillS_R hr (hc.lay hvc off) h
   refine ⟨d', ?_, hR⟩
   rw [← hd]
   congr 1
   apply Array.ext'
   simp only [Nat.add_zero] at hf
   rw [← Array.foldl_toList]
   simpa using hf
 | [], _ :: _, _, _, _, hp, _, _ => hp.elim
 | _ :: _, [], _, _, _, hp, _, _ => hp.elim
theorem zeroC_some {t : TypeId} {z : List Value} (h : zeroC P t = some z) : ∃ i zv, P.info? t = some i ∧ i.zero = some zv ∧ zv.cells = ⟨z⟩ ∧ z.length = i.size ∧ LR ρ z z := by
 unfold zeroC at h
 split at h
 ·rename_i i hi
  split at h
  ·rename_i zv hz
   obtain ⟨hb, h⟩ := cond_some h
   cases h
   simp only [Bool.and_eq_true, List.all_eq_true] at hb
   refine ⟨i, zv, inf_some hi, hz, rfl, Nat.eq_of_beq_eq_true hb.2, rfl, fun j v v' hv hv' => ?_⟩
   rw [hv] at hv'; cases hv'
   exact plain_refl ρ (hb.1 v (List.mem_of_getElem? hv))
  ·cases h
 ·cases h
theorem run_zeroC {t : TypeId} {z : List Value} (h : zeroC P t = some z) (w : World) : ∃ zv, (zeroValue t).run P w = .ok zv w ∧ zv.cells = ⟨z⟩ := by
 obtain ⟨i, zv, hi, hz, hc, _, _⟩ := zeroC_some (ρ := fun _ => none) h
 exact ⟨zv, by simp [zeroValue, typeInfo, hi, hz], hc⟩
theorem run_sizeOf' {t : TypeId} {i : TypeInfo} (h : inf P t = some i) (w : World) : (sizeOf t).run P w = .ok i.size w := by simp [sizeOf, typeInfo, inf_some h]
theorem places_sound (w : World) : ∀ (l : List Field) {ps : List (Nat × Nat)}, (l.mapM fun f => (inf P f.type).map fun i => (f.offset, i.size)) = some ps →
  (l.mapM fun (f : Field) => (Functor.map (Prod.mk f.offset) (sizeOf f.type) : Sem (Nat × Nat))).run P w = .ok ps w
 | [], ps, h => by simp at h; subst h; simp
 | f :: r, ps, h => by
  rw [List.mapM_cons] at h ⊢
  simp only [Option.bind_eq_bind, Option.pure_def, Option.bind_eq_some_iff, Option.map_eq_some_iff] at h
  obtain ⟨x, ⟨i, hi, rfl⟩, y, hy, h⟩ := h
  cases h
  have ih := places_sound w r hy
  simp [run_sizeOf' hi, ih]
theorem buildS_sound {t : TypeId} {l l' : List (Nat × Value)} {v : Value} (hp : PartsR ρ l l') (h : buildS P t l = some v) :
  ∃ v', VR ρ v v' ∧ ∀ w, (Instr.build t ⟨l'⟩).run P w = .ok v' w := by
 unfold buildS at h
 split at h
 ·rename_i z fields hz hu
  split at h
  ·rename_i places hpl
   simp only [Option.map_eq_some_iff] at h
   obtain ⟨d, hd, rfl⟩ := h
   obtain ⟨i, zv, hi, hzv, hc, _, hzR⟩ := zeroC_some (ρ := ρ) hz
   obtain ⟨d', hd', hR⟩ := fillS_R hp hzR hd
   refine ⟨_, VR.of_agg hR, fun w => ?_⟩
   have hpm := places_sound (P := P) w fields.toList hpl
   have hfill : Instr.fill (fun i => places[i]?) zv.cells l' = some ⟨d'⟩ := by rw [hc]; exact hd'
   have hmap : (fields.mapM fun (f : Field) => (Functor.map (Prod.mk f.offset) (sizeOf f.type) : Sem (Nat × Nat))).run P w = .ok ⟨places⟩ w := by
    rw [Array.mapM_eq_mapM_toList, Sem.run_map, hpm]; rfl
   simp only [Instr.build, zeroValue, typeInfo, Sem.run_bind, run_program, Result.andThen_ok, hi, hzv, run_underlying (und_some hu), Sem.run_pure, bind_pure_comp, hmap]
   simp [hfill]
  ·cases h
 ·rename_i z n el hz hu
  split at h
  ·rename_i ei hei
   simp only [Option.map_eq_some_iff] at h
   obtain ⟨d, hd, rfl⟩ := h
   obtain ⟨i, zv, hi, hzv, hc, _, hzR⟩ := zeroC_some (ρ := ρ) hz
   obtain ⟨d', hd', hR⟩ := fillS_R hp hzR hd
   refine ⟨_, VR.of_agg hR, fun w => ?_⟩
   have hfill : Instr.fill (fun k => some (k * ei.size, ei.size)) zv.cells l' = some ⟨d'⟩ := by rw [hc]; exact hd'
   simp only [Instr.build, zeroValue, typeInfo, Sem.run_bind, run_program, Result.andThen_ok, hi, hzv, run_underlying (und_some hu), Sem.run_pure, run_sizeOf' hei]
   simp [hfill]
  ·cases h
 ·cases h
end
section
variable {P : Program} {ρ : Rho}
theorem VR.int_inv {k : IntKind} {z : Int} {v' : Value} (h : VR ρ (.int k z) v') : v' = .int k z := by cases h; rfl
theorem VR.bool_inv {b : Bool} {v' : Value} (h : VR ρ (.bool b) v') : v' = .bool b := by cases h; rfl
theorem VR.ptr_inv {i off : Nat} {v' : Value} (h : VR ρ (.pointer (some ⟨i, off, none⟩)) v') : ∃ b c, ρ i = some (b, c) ∧ v' = .pointer (some ⟨b, off, none⟩) := by
 cases h with | ptr _ _ b c h => exact ⟨b, c, h, rfl⟩
theorem VR.ptr_inv' {a : Addr} {v' : Value} (h : VR ρ (.pointer (some a)) v') : ∃ i off b c, a = ⟨i, off, none⟩ ∧ ρ i = some (b, c) ∧ v' = .pointer (some ⟨b, off, none⟩) := by
 cases h with | ptr i off b c h => exact ⟨i, off, b, c, rfl, h, rfl⟩
theorem VR.slice_inv {i off n c : Nat} {v' : Value} (h : VR ρ (.slice (some ⟨i, off, none⟩) n c) v') :
  ∃ b cc c', ρ i = some (b, cc) ∧ v' = .slice (some ⟨b, off, none⟩) n c' ∧ ((c ≠ CAPX ∧ c' = c) ∨ (c = CAPX ∧ off = 0 ∧ c' = cc ∧ n ≤ cc)) := by
 cases h with
 | sl _ _ _ _ b cc h hc => exact ⟨b, cc, _, h, rfl, .inl ⟨hc, rfl⟩⟩
 | slx _ _ b cc h hn => exact ⟨b, cc, _, h, rfl, .inr ⟨rfl, rfl, rfl, hn⟩⟩
theorem VR.func_inv {fn : Fn} {a b : Array Value} {v' : Value} (h : VR ρ (.func fn a b) v') (hf : ∀ l, fn ≠ .yield l) :
  ∃ a' b', v' = .func fn a' b' ∧ LR ρ a.toList a'.toList ∧ LR ρ b.toList b'.toList := by
 cases h with
 | func _ _ _ a' b' _ ha hb h h' =>
  exact ⟨a', b', rfl, ⟨by simpa using ha, fun j v v' hv hv' => h j v v' (by simpa using hv) (by simpa using hv')⟩, ⟨by simpa using hb, fun j v v' hv hv' => h' j v v' (by simpa using hv) (by simpa using hv')⟩⟩
 | yield i b c h => exact absurd rfl (hf i)
theorem VR.of_func {fn : Fn} {a b a' b' : List Value} (hf : ∀ l, fn ≠ .yield l) (ha : LR ρ a a') (hb : LR ρ b b') : VR ρ (.func fn ⟨a⟩ ⟨b⟩) (.func fn ⟨a'⟩ ⟨b'⟩) :=
 .func _ _ _ _ _ hf (by simpa using ha.len) (by simpa using hb.len) (fun j v v' hv hv' => ha.at_ j v v' (by simpa using hv) (by simpa using hv')) (fun j v v' hv hv' => hb.at_ j v v' (by simpa using hv) (by simpa using hv'))
theorem VR.iface_inv {t : TypeId} {v v' : Value} (h : VR ρ (.iface t v) v') : ∃ u, v' = .iface t u ∧ VR ρ v u := by
 cases h with | iface _ _ u h => exact ⟨u, rfl, h⟩
theorem VR.mk_slice {i off n c b cc : Nat} (h : ρ i = some (b, cc)) (hc : c < CAPX) : VR ρ (.slice (some ⟨i, off, none⟩) n c) (.slice (some ⟨b, off, none⟩) n c) := .sl _ _ _ _ _ _ h (by omega)
theorem bound_R {e : Env} {f : Operand → Value} (he : EnvR ρ e f) {x : Operand} {d hi n : Nat} (h : boundS e (some x) d hi = some n) :
  ∃ k z, f x = .int k z ∧ 0 ≤ z ∧ z ≤ hi ∧ z.toNat = n ∧ n ≤ hi := by
 simp only [boundS] at h
 split at h
 ·rename_i k z hz
  obtain ⟨hb, h⟩ := cond_some h
  cases h
  simp only [Bool.and_eq_true, decide_eq_true_eq] at hb
  have h2 := Nat.le_of_ble_eq_true hb.2
  exact ⟨k, z, (he x _ hz).int_inv, hb.1, by omega, rfl, h2⟩
 ·cases h
theorem run_sliceBound {x : Value} {k : IntKind} {z : Int} {y : Nat} {code : BoundsCode} (hx : x = .int k z) (h0 : 0 ≤ z) (h1 : z ≤ y) (w : World) :
  (Instr.sliceBound x y code).run P w = .ok z.toNat w := by
 subst hx
 simp [Instr.sliceBound, asIntOf, h0, h1]
theorem Addr.add_plain (b off n : Nat) : (⟨b, off, none⟩ : Addr).add n = ⟨b, off + n, none⟩ := by
 unfold Addr.add; split <;> simp_all
theorem nilCmp_sound {t : TypeId} {x y x' y' : Value} (hx : VR ρ x x') (hy : VR ρ y y') (h : nilCmp P t x y = true) (w : World) :
  (Op.equal t x' y').run P w = .ok false w ∧ (∀ op a b, (eqGuard op t a b x' y').run P w = .ok () w) ∧
  (binOp .eql t x' y' = (do pure (.bool (← Op.equal t x' y')))) ∧ (binOp .neq t x' y' = (do pure (.bool (!(← Op.equal t x' y'))))) := by
 unfold nilCmp at h
 split at h <;> first
  | (simp at h; done)
  | (rename_i hu
     cases hx <;> cases hy
     all_goals (refine ⟨?_, ?_, ?_, ?_⟩ <;> first
      | (show ((Op.equalIn (9999 + 1) _ _ _).run P w = _); unfold Op.equalIn; simp only [Sem.run_bind, run_underlying (und_some hu), Result.andThen_ok]; rfl)
      | (intro op a b; cases op <;> simp [eqGuard])
      | rfl))
end
section
variable {P : Program} {ρ : Rho}
theorem run_v {s : Sem Value} {a : Value} {w w' : World} (h : s.run P w = .ok a w') : (do pure (Next.value (← s)) : Sem Next).run P w = .ok (.value a) w' := by
 simp only [Sem.run_bind, h, Result.andThen_ok, Sem.run_pure]
def BOpt (y : Option Value) (d hi n : Nat) : Prop := (y = none ∧ n = d) ∨ ∃ k z, y = some (.int k z) ∧ 0 ≤ z ∧ z ≤ hi ∧ z.toNat = n
theorem bound_opt {e : Env} {f : Operand → Value} (he : EnvR ρ e f) {y : Option Operand} {d hi n : Nat} (h : boundS e y d hi = some n) (hd : d ≤ hi) :
  BOpt (y.map f) d hi n ∧ n ≤ hi := by
 cases y with
 | none => simp [boundS] at h; subst h; exact ⟨.inl ⟨rfl, rfl⟩, hd⟩
 | some y =>
  obtain ⟨k, z, hz, h0, h1, h2, hle⟩ := bound_R he h
  exact ⟨.inr ⟨k, z, by rw [Option.map_some, hz], h0, h1, h2⟩, hle⟩
theorem BOpt.mono {y : Option Value} {d hi hi' n : Nat} (h : BOpt y d hi n) (hh : hi ≤ hi') : BOpt y d hi' n := by
 rcases h with h | ⟨k, z, a, b, c, d⟩
 ·exact .inl h
 ·exact .inr ⟨k, z, a, b, by omega, d⟩
theorem run_bounds {isSlice : Bool} {n cap l h : Nat} {lo hi : Option Value} (hhi : BOpt hi n cap h) (hlo : BOpt lo 0 h l) (w : World) :
  (Instr.sliceBounds isSlice n cap lo hi none).run P w = .ok (l, h, cap) w := by
 rcases hhi with ⟨rfl, rfl⟩ | ⟨k, z, rfl, a0, a1, rfl⟩ <;> rcases hlo with ⟨rfl, rfl⟩ | ⟨k', z', rfl, b0, b1, rfl⟩
 ·simp [Instr.sliceBounds]
 ·simp [Instr.sliceBounds, run_sliceBound rfl b0 b1]
 ·simp [Instr.sliceBounds, run_sliceBound rfl a0 a1]
 ·simp [Instr.sliceBounds, run_sliceBound rfl a0 a1, run_sliceBound rfl b0 b1]
theorem run_bounds_max {isSlice : Bool} {n cap l h m : Nat} {lo hi mx : Option Value} (hmx : ∃ k z, mx = some (.int k z) ∧ 0 ≤ z ∧ z ≤ cap ∧ z.toNat = m) (hhi : ∃ k z, hi = some (.int k z) ∧ 0 ≤ z ∧ z ≤ m ∧ z.toNat = h) (hlo : BOpt lo 0 h l) (w : World) :
  (Instr.sliceBounds isSlice n cap lo hi mx).run P w = .ok (l, h, m) w := by
 obtain ⟨k, z, rfl, a0, a1, rfl⟩ := hmx
 obtain ⟨k1, z1, rfl, c0, c1, rfl⟩ := hhi
 rcases hlo with ⟨rfl, rfl⟩ | ⟨k', z', rfl, b0, b1, rfl⟩
 ·simp [Instr.sliceBounds, run_sliceBound rfl a0 a1, run_sliceBound rfl c0 c1]
 ·simp [Instr.sliceBounds, run_sliceBound rfl a0 a1, run_sliceBound rfl c0 c1, run_sliceBound rfl b0 b1]
theorem run_sliceAt {t el : TypeId} {ei : TypeInfo} {b off n c l h m : Nat} {lo hi mx : Option Value} (hu : P.underlying t = some (.slice el)) (hi' : inf P el = some ei) (w : World)
  (hb : ∀ isS, (Instr.sliceBounds isS n c lo hi mx).run P w = .ok (l, h, m) w) :
  (Instr.sliceAt t (.slice (some ⟨b, off, none⟩) n c) lo hi mx).run P w = .ok (.slice (some ⟨b, off + (if m = l then 0 else l * ei.size), none⟩) (h - l) (m - l)) w := by
 simp only [Instr.sliceAt, Instr.slice, Sem.run_bind, run_underlying hu, Result.andThen_ok, hb, run_sizeOf' hi', Sem.run_pure]
 by_cases e : m = l
 ·simp [e]
 ·simp [e, Addr.add_plain]
theorem run_sliceAt_arr {t el : TypeId} {ei : TypeInfo} {b off n l h m : Nat} {lo hi mx : Option Value} (hu : P.underlying t = some (.array n el)) (hi' : inf P el = some ei) (w : World)
  (hb : ∀ isS, (Instr.sliceBounds isS n n lo hi mx).run P w = .ok (l, h, m) w) :
  (Instr.sliceAt t (.pointer (some ⟨b, off, none⟩)) lo hi mx).run P w = .ok (.slice (some ⟨b, off + (if m = l then 0 else l * ei.size), none⟩) (h - l) (m - l)) w := by
 simp only [Instr.sliceAt, Instr.sureAddr, Sem.run_bind, run_underlying hu, Result.andThen_ok, hb, run_sizeOf' hi', Sem.run_pure]
 by_cases e : m = l
 ·simp [e]
 ·simp [e, Addr.add_plain]
theorem cond_beq_ite {a b : Nat} {x y : Nat} : (bif Nat.beq a b then x else y) = if a = b then x else y := by
 by_cases h : a = b
 ·subst h; simp
 ·have : Nat.beq a b = false := by rw [← Bool.not_eq_true]; exact fun e => h (Nat.eq_of_beq_eq_true e)
  rw [this, if_neg h]; rfl
theorem blt_lt {a b : Nat} (h : Nat.blt a b = true) : a < b := Nat.le_of_ble_eq_true h
theorem sliceS_sound {e : Env} {f : Operand → Value} (he : EnvR ρ e f) {t : TypeId} {x x' v : Value} {lo hi mx : Option Operand} (hx : VR ρ x x') (h : sliceS P t x e lo hi mx = some v) :
  ∃ v', VR ρ v v' ∧ ∀ w, (Instr.sliceAt t x' (lo.map f) (hi.map f) (mx.map f)).run P w = .ok v' w := by
 unfold sliceS at h
 split at h
 ·
  rename_i el i off n c hu
  obtain ⟨b, cc, c', hρ, rfl, hcc⟩ := hx.slice_inv
  split at h
  ·rename_i ei hei
   split at h
   ·split at h
    ·rename_i hN hhi
     split at h
     ·rename_i l hlo
      obtain ⟨b1, b1'⟩ := bound_opt he hhi (Nat.le_refl _)
      obtain ⟨b2, b2'⟩ := bound_opt he hlo (Nat.zero_le _)
      by_cases hcap : c = CAPX
      ·subst hcap
       rw [Nat.beq_refl, cond_true] at h
       obtain ⟨hb, h⟩ := cond_some h
       cases h
       simp only [Bool.and_eq_true] at hb
       have hl0 := Nat.eq_of_beq_eq_true hb.1
       have ho0 := Nat.eq_of_beq_eq_true hb.2
       subst hl0; subst ho0
       obtain ⟨hc1, _⟩ | ⟨_, _, rfl, hn⟩ := hcc
       ·exact absurd rfl hc1
       refine ⟨.slice (some ⟨b, 0, none⟩) hN c', .slx _ _ _ _ hρ (by omega), fun w => ?_⟩
       have := run_sliceAt (b := b) (off := 0) (und_some hu) hei w (fun isS => run_bounds (isSlice := isS) (b1.mono hn) b2 w)
       simpa using this
      ·have hbq : Nat.beq c CAPX = false := by rw [← Bool.not_eq_true]; exact fun e => hcap (Nat.eq_of_beq_eq_true e)
       rw [hbq, cond_false] at h
       obtain ⟨hb, h⟩ := cond_some h
       cases h
       simp only [Bool.and_eq_true] at hb
       have h1 := Nat.le_of_ble_eq_true hb.1
       have h2 := blt_lt hb.2
       obtain ⟨_, rfl⟩ | ⟨hc1, _⟩ := hcc
       ·refine ⟨_, VR.mk_slice hρ h2, fun w => ?_⟩
        rw [cond_beq_ite]
        have hhb : BOpt (hi.map f) n c' hN := by
         rcases b1 with ⟨q, rfl⟩ | ⟨k, z, q1, q2, q3, q4⟩
         ·exact .inl ⟨q, rfl⟩
         ·exact .inr ⟨k, z, q1, q2, by omega, q4⟩
        exact run_sliceAt (und_some hu) hei w (fun isS => run_bounds (isSlice := isS) hhb b2 w)
       ·exact absurd hc1 hcap
     ·cases h
    ·cases h
   ·split at h
    ·rename_i m hm
     split at h
     ·cases h
     ·split at h
      ·rename_i hN hhi
       split at h
       ·rename_i l hlo
        obtain ⟨hb, h⟩ := cond_some h
        cases h
        obtain ⟨k, z, hz, a0, a1, a2, a3⟩ := bound_R he hm
        obtain ⟨k1, z1, hz1, c0, c1, c2, c3⟩ := bound_R he hhi
        obtain ⟨b2, _⟩ := bound_opt he hlo (Nat.zero_le _)
        refine ⟨_, VR.mk_slice hρ (blt_lt hb), fun w => ?_⟩
        rw [cond_beq_ite]
        refine run_sliceAt (und_some hu) hei w (fun isS => run_bounds_max (isSlice := isS) ⟨k, z, by rw [Option.map_some, hz], a0, ?_, a2⟩ ⟨k1, z1, by rw [Option.map_some, hz1], c0, by omega, c2⟩ b2 w)
        rw [cond_beq_ite] at a1
        split at a1
        ·obtain ⟨q, _⟩ | ⟨_, _, rfl, hn⟩ := hcc
         ·contradiction
         ·omega
        ·obtain ⟨_, rfl⟩ | ⟨q, _⟩ := hcc
         ·exact a1
         ·contradiction
       ·cases h
      ·cases h
    ·cases h
  ·cases h
 ·rename_i n el i off hu
  obtain ⟨b, cc, hρ, rfl⟩ := hx.ptr_inv
  split at h
  ·rename_i ei hei
   split at h
   ·rename_i hN hhi
    split at h
    ·rename_i l hlo
     obtain ⟨hb, h⟩ := cond_some h
     cases h
     obtain ⟨b1, b1'⟩ := bound_opt he hhi (Nat.le_refl _)
     obtain ⟨b2, b2'⟩ := bound_opt he hlo (Nat.zero_le _)
     refine ⟨_, VR.mk_slice hρ (blt_lt hb), fun w => ?_⟩
     rw [cond_beq_ite]
     exact run_sliceAt_arr (und_some hu) hei w (fun isS => run_bounds (isSlice := isS) b1 b2 w)
    ·cases h
   ·cases h
  ·cases h
 ·cases h
end
section
variable {P : Program} {ρ : Rho}
def HasV (P : Program) (ρ : Rho) (f : Operand → Value) (o : Oper) (v : Value) : Prop := ∃ v', VR ρ v v' ∧ ∀ w, (execOp f o).run P w = .ok (.value v') w
theorem HasV.plain {e : Env} {f : Operand → Value} (he : EnvR ρ e f) {o : Oper} {v : Value} (h : plainOp P e o = some v) : HasV P ρ f o v :=
 ⟨v, (plainOp_sound he h).1, (plainOp_sound he h).2⟩
theorem map_mk {α β : Type} (f : α → β) (a : Array α) : a.map f = ⟨a.toList.map f⟩ := Array.ext' (by simp)
theorem fields_get {fields : Array Field} {f : Nat} {fd : Field} (h : fields.toList[f]? = some fd) : fields[f]? = some fd := by simpa using h
theorem run_fieldAt {s : TypeId} {fields : Array Field} {f : Nat} {fd : Field} {fi : TypeInfo} {b off : Nat} (hu : und P s = some (.struct fields)) (hf : fields.toList[f]? = some fd)
  (hi : inf P fd.type = some fi) (hz : fi.size ≠ 0) (w : World) : (Instr.fieldAt s (.pointer (some ⟨b, off, none⟩)) f).run P w = .ok (.pointer (some ⟨b, off + fd.offset, none⟩)) w := by
 simp only [Instr.fieldAt, Sem.run_bind, run_underlying (und_some hu), Result.andThen_ok, fields_get hf, Instr.sureAddr, Sem.run_pure, fieldPlace, run_sizeOf' hi]
 simp [hz, Addr.add_plain]
theorem run_indexAt_slice {t el : TypeId} {ei : TypeInfo} {b off n c : Nat} {k : IntKind} {z : Int} (hu : und P t = some (.slice el)) (hi : inf P el = some ei) (h0 : 0 ≤ z) (h1 : z < n) (w : World) :
  (Instr.indexAt t (.slice (some ⟨b, off, none⟩) n c) (.int k z)).run P w = .ok (.pointer (some ⟨b, off + z.toNat * ei.size, none⟩)) w := by
 simp only [Instr.indexAt, asIntOf, Sem.run_bind, run_underlying (und_some hu), Result.andThen_ok, Sem.run_pure]
 simp [h0, h1, run_sizeOf' hi, Addr.add_plain]
theorem run_indexAt_arr {t el : TypeId} {ei : TypeInfo} {b off n : Nat} {k : IntKind} {z : Int} (hu : und P t = some (.array n el)) (hi : inf P el = some ei) (h0 : 0 ≤ z) (h1 : z < n) (w : World) :
  (Instr.indexAt t (.pointer (some ⟨b, off, none⟩)) (.int k z)).run P w = .ok (.pointer (some ⟨b, off + z.toNat * ei.size, none⟩)) w := by
 simp only [Instr.indexAt, asIntOf, Sem.run_bind, run_underlying (und_some hu), Result.andThen_ok, Sem.run_pure, Instr.sureAddr]
 simp [h0, h1, run_sizeOf' hi, Addr.add_plain]
theorem followS_sound : ∀ {path : List FieldStep} {t : TypeId} {v v' : Value} {xt : TypeId} {u : Value}, VR ρ v v' → followS P path t v = some (xt, u) →
  ∃ u', VR ρ u u' ∧ ∀ w, (follow path t (.val v')).run P w = .ok (xt, .val u') w ∧ (followBlind path t (some v')).run P w = .ok (.ok (xt, some u')) w
 | [], t, v, v', xt, u, hv, h => by
  simp only [followS] at h; cases h
  exact ⟨v', hv, fun w => ⟨rfl, rfl⟩⟩
 | s :: r, t, v, v', xt, u, hv, h => by
  simp only [followS] at h
  split at h
  ·rename_i fields cs hd hu
   split at h
   ·rename_i fd hf
    split at h
    ·rename_i x hx
     obtain ⟨a', rfl, hR⟩ := hv.agg_inv
     obtain ⟨x', hxR, hxr⟩ := part_sound hR hx
     obtain ⟨u', hu', hr⟩ := followS_sound hxR h
     refine ⟨u', hu', fun w => ⟨?_, ?_⟩⟩
     ·simp only [follow, Sem.run_bind, run_underlying (und_some hu), Result.andThen_ok, fields_get hf, hd]
      rw [show (⟨a'.toList⟩ : Array Value) = a' from rfl] at hxr
      rw [if_neg (by simp), Sem.run_bind, hxr w]
      exact (hr w).1
     ·simp only [followBlind, Sem.run_bind, run_underlying (und_some hu), Result.andThen_ok, fields_get hf, hd]
      rw [show (⟨a'.toList⟩ : Array Value) = a' from rfl] at hxr
      rw [hxr w]
      exact (hr w).2
    ·cases h
   ·cases h
  ·cases h
theorem run_typeInfo' {t : TypeId} {i : TypeInfo} (h : inf P t = some i) (w : World) : (typeInfo t).run P w = .ok i w := by simp [typeInfo, inf_some h]
theorem headOk_sound {t : TypeId} {v v' : Value} {name : String} (hv : VR ρ v v') (h : headOk P t v name = true) (n : Nat) (w : World) :
  (nilAhead (n + 1) t v' name).run P w = .ok (some false) w := by
 unfold headOk at h
 split at h
 ·rename_i i hi
  split at h
  ·rename_i m hm
   split at h
   ·rename_i f x hfn hfo
    obtain ⟨xt, u⟩ := x
    obtain ⟨u', _, hr⟩ := followS_sound hv hfo
    simp only [nilAhead, Sem.run_bind, run_typeInfo' hi, Result.andThen_ok, hm, (hr w).2, hfn]
    rfl
   ·rename_i f xt u hfn hfo
    obtain ⟨u', hu', hr⟩ := followS_sound hv hfo
    simp only [nilAhead, Sem.run_bind, run_typeInfo' hi, Result.andThen_ok, hm, (hr w).2, hfn]
    split at h
    ·rename_i el a hx
     obtain ⟨i', off, b, c, rfl, _, rfl⟩ := hu'.ptr_inv'
     simp only [run_underlying (und_some hx), Result.andThen_ok]
     rfl
    ·cases h
    ·rename_i d hn1 hn2 hx
     simp only [run_underlying (und_some hn2), Result.andThen_ok]
     cases d <;> first | rfl | exact absurd rfl (hn1 _)
    ·cases h
   ·cases h
  ·cases h
 ·cases h
theorem methodS_sound {t : TypeId} {v v' u : Value} {name : String} {g : FuncId} (hv : VR ρ v v') (h : methodS P t v name = some (g, u)) (n : Nat) :
  ∃ u', VR ρ u u' ∧ ∀ w, (method (n + 1) t v' name).run P w = .ok (g, u') w := by
 unfold methodS at h
 split at h
 ·rename_i i hi
  split at h
  ·rename_i m hm
   split at h
   ·rename_i f ptr xt u0 hfn hfo
    obtain ⟨u', hu', hr⟩ := followS_sound hv hfo
    split at h
    ·rename_i el hx
     obtain ⟨hp, h⟩ := cond_some h
     cases h
     refine ⟨u', hu', fun w => ?_⟩
     simp only [method, Sem.run_bind, run_typeInfo' hi, Result.andThen_ok, hm, (hr w).1, hfn, receiverAt, run_underlying (und_some hx), hp]
     rfl
    ·rename_i d hn hx
     obtain ⟨hp, h⟩ := cond_none h
     cases h
     refine ⟨u', hu', fun w => ?_⟩
     simp only [method, Sem.run_bind, run_typeInfo' hi, Result.andThen_ok, hm, (hr w).1, hfn, receiverAt, run_underlying (und_some hx), hp]
     cases d <;> first | rfl | exact absurd rfl (hn _)
    ·cases h
   ·cases h
  ·cases h
 ·cases h
theorem run_binOp_cmp {op : BinOp} (hop : op = .eql ∨ op = .neq) {t yt : TypeId} {x y : Operand} {e : Env} {f : Operand → Value} (he : EnvR ρ e f) {a b : Value} (ha : e x = some a) (hb : e y = some b) (h : nilCmp P t a b = true)
  {dst : Option Tmp} {ty : TypeId} {pos : String} {after : Array Edge} {guard : Option (Nat × Bool)} (w : World) :
  (execOp f { dst := dst, op := .binOp op t x y yt, type := ty, pos := pos, after := after, guard := guard }).run P w = .ok (.value (.bool (op matches .neq))) w := by
 obtain ⟨h1, h2, h3, h4⟩ := nilCmp_sound (he x a ha) (he y b hb) h w
 refine run_v ?_
 simp only [Sem.run_bind, h2, Result.andThen_ok]
 rcases hop with rfl | rfl
 ·rw [h3]; simp only [Sem.run_bind, h1, Result.andThen_ok, Sem.run_pure]
 ·rw [h4]; simp only [Sem.run_bind, h1, Result.andThen_ok, Sem.run_pure]; rfl
theorem nilCheck_sound {e : Env} {f : Operand → Value} (he : EnvR ρ e f) {x : Operand} {v : Value} {dst : Option Tmp} {ty : TypeId} {pos : String} {after : Array Edge} {guard : Option (Nat × Bool)}
  (h : pureOp P e { dst := dst, op := .nilCheck x, type := ty, pos := pos, after := after, guard := guard } = some v) :
  HasV P ρ f { dst := dst, op := .nilCheck x, type := ty, pos := pos, after := after, guard := guard } v := by
 simp only [pureOp] at h
 split at h
 ·rename_i a ha
  cases h
  have := he x _ ha
  obtain ⟨i, off, b, c, rfl, hρ, hx⟩ := this.ptr_inv'
  exact ⟨_, .ptr i off b c hρ, fun w => by simp [execOp, hx]⟩
 ·rename_i g a b ha
  cases h
  obtain ⟨a', b', hx, h1, h2⟩ := (he x _ ha).func_inv (by simp)
  exact ⟨_, he x _ ha, fun w => by simp [execOp, hx]⟩
 ·rename_i name a b ha
  split at h
  ·rename_i t w0 r hl
   obtain ⟨hb, h⟩ := cond_some h
   cases h
   obtain ⟨a', b', hx, h1, h2⟩ := (he x _ ha).func_inv (by simp)
   rw [hl] at h1
   obtain ⟨y, r', hl', hy, _⟩ := h1.cons_inv
   obtain ⟨u, rfl, hu⟩ := hy.iface_inv
   refine ⟨_, he x _ ha, fun w => ?_⟩
   have h0 : a'[0]? = some (.iface t u) := by
    rw [← Array.getElem?_toList, hl']; rfl
   have hn : P.types.size + Made.depth = (P.types.size + Made.depth - 1) + 1 := by unfold Made.depth; omega
   simp only [execOp, hx, h0, Sem.run_bind, run_program, Result.andThen_ok]
   rw [hn, headOk_sound hu hb]
   rfl
  ·cases h
 ·cases h
theorem pureOp_sound {e : Env} {f : Operand → Value} (he : EnvR ρ e f) {o : Oper} {v : Value} (h : pureOp P e o = some v) : HasV P ρ f o v := by
 obtain ⟨dst, op, ty, pos, after, guard⟩ := o
 cases op <;> try exact HasV.plain he h
 case move x => exact ⟨_, he x v h, fun w => rfl⟩
 case assign x => exact ⟨_, he x v h, fun w => rfl⟩
 case nilCheck x => exact nilCheck_sound he h
 case pick c a b =>
  simp only [pureOp] at h
  split at h
  ·rename_i hc
   have := (he c _ hc).bool_inv
   exact ⟨_, he a v h, fun w => by simp [execOp, this, asBool]⟩
  ·rename_i hc
   have := (he c _ hc).bool_inv
   exact ⟨_, he b v h, fun w => by simp [execOp, this, asBool]⟩
  ·cases h
 case extract x i =>
  simp only [pureOp] at h
  split at h
  ·rename_i vs hx
   obtain ⟨a', hx', hR⟩ := (he x _ hx).tuple_inv
   obtain ⟨v', hv', hr⟩ := hR.get h
   exact ⟨v', hr, fun w => run_v (by rw [Array.getElem?_toList] at hv'; simp [hx', Instr.extract, hv'])⟩
  ·cases h
 case fieldAddr s x k =>
  simp only [pureOp] at h
  split at h
  ·rename_i i off fields hx hu
   split at h
   ·rename_i fd hf
    split at h
    ·rename_i fi hfi
     obtain ⟨hz, h⟩ := cond_none h
     cases h
     obtain ⟨b, c, hρ, hx'⟩ := (he x _ hx).ptr_inv
     exact ⟨_, .ptr i _ b c hρ, fun w => run_v (by rw [hx']; exact run_fieldAt hu hf hfi (fun e0 => by rw [e0] at hz; cases hz) w)⟩
    ·cases h
   ·cases h
  ·cases h
 case indexAddr t x ix =>
  simp only [pureOp] at h
  split at h
  ·rename_i i off n c k z el hx hix hu
   split at h
   ·rename_i ei hei
    obtain ⟨hb, h⟩ := cond_some h
    cases h
    simp only [Bool.and_eq_true, decide_eq_true_eq] at hb
    have hlt := blt_lt hb.2
    obtain ⟨b, cc, c', hρ, hx', _⟩ := (he x _ hx).slice_inv
    have hi' := (he ix _ hix).int_inv
    exact ⟨_, .ptr i _ b cc hρ, fun w => run_v (by rw [hx', hi']; exact run_indexAt_slice hu hei hb.1 (by omega) w)⟩
   ·cases h
  ·rename_i i off k z n el hx hix hu
   split at h
   ·rename_i ei hei
    obtain ⟨hb, h⟩ := cond_some h
    cases h
    simp only [Bool.and_eq_true, decide_eq_true_eq] at hb
    have hlt := blt_lt hb.2
    obtain ⟨b, c, hρ, hx'⟩ := (he x _ hx).ptr_inv
    have hi' := (he ix _ hix).int_inv
    exact ⟨_, .ptr i _ b c hρ, fun w => run_v (by rw [hx', hi']; exact run_indexAt_arr hu hei hb.1 (by omega) w)⟩
   ·cases h
  ·cases h
 case slice t x lo hi mx =>
  simp only [pureOp] at h
  split at h
  ·rename_i u hx
   split at h
   ·rename_i r hr
    cases h
    obtain ⟨v', hv', hrun⟩ := sliceS_sound he (he x _ hx) hr
    exact ⟨v', hv', fun w => run_v (hrun w)⟩
   ·exact HasV.plain he h
  ·cases h
 case makeInterface t x =>
  simp only [pureOp] at h
  split at h
  ·cases h
  ·rename_i u d hn hx hu
   cases h
   refine ⟨_, .iface t _ _ (he x _ hx), fun w => run_v ?_⟩
   simp only [Instr.makeInterface, Sem.run_bind, run_underlying (und_some hu), Result.andThen_ok]
   cases d <;> first | rfl | exact absurd rfl (hn _)
  ·cases h
 case makeFunc fn a b =>
  cases fn <;> simp only [pureOp] at h <;> try exact HasV.plain he h
  case func g =>
   split at h
   ·rename_i u1 u2 h1 h2
    cases h
    refine ⟨_, VR.of_func (by simp) (evArgs_R he h1) (evArgs_R he h2), fun w => run_v ?_⟩
    simp [Instr.makeFunc, map_mk]
   ·cases h
  case method name =>
   split at h
   ·rename_i u1 u2 h1 h2
    cases h
    refine ⟨_, VR.of_func (by simp) (evArgs_R he h1) (evArgs_R he h2), fun w => run_v ?_⟩
    simp [Instr.makeFunc, map_mk]
   ·cases h
 case build t parts =>
  simp only [pureOp] at h
  split at h
  ·rename_i l hl
   obtain ⟨v', hv', hrun⟩ := buildS_sound (evParts_R he hl) h
   exact ⟨v', hv', fun w => run_v (by rw [← hrun w, map_mk])⟩
  ·cases h
 case field t x k =>
  simp only [pureOp] at h
  split at h
  ·rename_i cs fields hx hu
   split at h
   ·rename_i fd hf
    obtain ⟨a', hx', hR⟩ := (he x _ hx).agg_inv
    obtain ⟨v', hv', hrun⟩ := part_sound hR h
    refine ⟨v', hv', fun w => run_v ?_⟩
    simp only [Instr.field, Sem.run_bind, run_underlying (und_some hu), Result.andThen_ok, fields_get hf, hx', asAgg, Sem.run_pure]
    exact hrun w
   ·cases h
  ·cases h
 case index t x ix =>
  simp only [pureOp] at h
  split at h
  ·rename_i cs k z n el hx hix hu
   split at h
   ·rename_i ei hei
    obtain ⟨hb, h⟩ := cond_some h
    simp only [Bool.and_eq_true, decide_eq_true_eq] at hb
    have hlt := blt_lt hb.2
    obtain ⟨a', hx', hR⟩ := (he x _ hx).agg_inv
    have hi' := (he ix _ hix).int_inv
    obtain ⟨v', hv', hrun⟩ := part_sound hR h
    refine ⟨v', hv', fun w => run_v ?_⟩
    have h0 : 0 ≤ z ∧ z < n := ⟨hb.1, by omega⟩
    simp only [Instr.index, hi', asIntOf, Sem.run_pure, Sem.run_bind, run_underlying (und_some hu), Result.andThen_ok, hx', h0, and_self, if_true, run_sizeOf' hei]
    exact hrun w
   ·cases h
  ·exact HasV.plain he h
 case typeAssert x xt asserted ok =>
  simp only [pureOp] at h
  split at h
  ·cases h
  ·rename_i t u d hn hx hu
   obtain ⟨u', hx', hR⟩ := (he x _ hx).iface_inv
   have hnd : ∀ ms, d ≠ .interface ms := fun ms e => hn ms (by rw [e])
   by_cases ht : t = asserted
   ·subst ht
    rw [Nat.beq_refl, cond_true] at h
    cases h
    cases ok with
    | true =>
     refine ⟨_, VR.of_tuple (LR.cons hR (LR.cons (.bool true) (LR.nil ρ))), fun w => run_v ?_⟩
     simp only [Instr.typeAssert, Sem.run_bind, run_underlying (und_some hu), Result.andThen_ok, hx']
     cases d <;> first | (simp; done) | exact absurd rfl (hnd _)
    | false =>
     refine ⟨_, hR, fun w => run_v ?_⟩
     simp only [Instr.typeAssert, Sem.run_bind, run_underlying (und_some hu), Result.andThen_ok, hx']
     cases d <;> first | (simp; done) | exact absurd rfl (hnd _)
   ·have hbq : Nat.beq t asserted = false := by rw [← Bool.not_eq_true]; exact fun e => ht (Nat.eq_of_beq_eq_true e)
    rw [hbq, cond_false] at h
    cases ok with
    | false => cases h
    | true =>
     simp only [cond_true] at h
     split at h
     ·rename_i i hi
      split at h
      ·rename_i z hz
       obtain ⟨hp, h⟩ := cond_some h
       cases h
       refine ⟨_, VR.of_tuple (LR.cons (plain_refl ρ hp) (LR.cons (.bool false) (LR.nil ρ))), fun w => run_v ?_⟩
       simp only [Instr.typeAssert, Sem.run_bind, run_underlying (und_some hu), Result.andThen_ok, hx']
       cases d <;> first | (simp [ht, zeroValue, run_typeInfo' hi, hz]; done) | exact absurd rfl (hnd _)
      ·cases h
     ·cases h
  ·cases h
 case binOp op t x y yt =>
  cases op <;> simp only [pureOp] at h <;> try exact HasV.plain he h
  case eql =>
   split at h
   ·rename_i a b ha hb
    cases hc : nilCmp P t a b with
    | true =>
     rw [hc] at h; cases h
     exact ⟨_, .bool false, fun w => run_binOp_cmp (.inl rfl) he ha hb hc w⟩
    | false => rw [hc] at h; exact HasV.plain he h
   ·cases h
  case neq =>
   split at h
   ·rename_i a b ha hb
    cases hc : nilCmp P t a b with
    | true =>
     rw [hc] at h; cases h
     exact ⟨_, .bool true, fun w => run_binOp_cmp (.inr rfl) he ha hb hc w⟩
    | false => rw [hc] at h; exact HasV.plain he h
   ·cases h
end
section
variable {P : Program} {ρ : Rho}
theorem prun_bind {α β : Type} (s : Sem α) (f : α → Sem β) : prun P (s.bind f) = match prun P s with | .ok a => prun P (f a) | .pan v => .pan v | .no => .no := by
 induction s with
 | pure a => simp [Sem.bind, prun]
 | program k ih => simp only [Sem.bind, prun]; exact ih P
 | mark m k ih => simp only [Sem.bind, prun]; exact ih
 | halt x => cases x <;> rfl
 | _ => simp [Sem.bind, prun]
theorem prun_bind' {α β : Type} (s : Sem α) (f : α → Sem β) : prun P (s >>= f) = match prun P s with | .ok a => prun P (f a) | .pan v => .pan v | .no => .no := prun_bind s f
theorem cells_live {G : Nat} {σ : SW} {w : World} (hr : Rel G ρ σ w) {i : Nat} {c : List Value} (h : cellsS σ i = some c) :
  ∃ b cc c' e, ρ i = some (b, cc) ∧ w.heap[b]? = some (.cells c' e (0, 0)) ∧ LR ρ c (c'.toList.take c.length) ∧ c.length ≤ c'.size := by
 unfold cellsS at h
 split at h
 ·rename_i c0 e hg
  cases h
  obtain ⟨_, b, cc, o', hρ, hw, ho⟩ := hr.live _ _ hg
  cases o' <;> simp only [ObjR] at ho
  obtain ⟨rfl, rfl, hl⟩ := ho
  have := hl.len
  exact ⟨b, cc, _, _, hρ, hw, by rw [List.take_of_length_le (by omega)]; exact hl, by simp at this; omega⟩
 ·rename_i c0 e s hg
  cases h
  obtain ⟨_, b, cc, o', hρ, hw, ho⟩ := hr.live _ _ hg
  cases o' <;> simp only [ObjR] at ho
  obtain ⟨rfl, rfl, _, hle, hl⟩ := ho
  exact ⟨b, cc, _, _, hρ, hw, hl, hle⟩
 ·cases h
theorem cell_at {w : World} {b : Nat} {c : Array Value} {e : TypeId} {fr : Nat × Nat} (h : w.heap[b]? = some (.cells c e fr)) (off : Nat) : w.cell? ⟨b, off, none⟩ = c[off]? := by
 unfold World.cell?; rw [h]; simp
theorem load_sound {t : TypeId} {c : List Value} {c' : Array Value} {off b : Nat} {e : TypeId} {fr : Nat × Nat} {v : Value} {w : World} (hc : LR ρ c (c'.toList.take c.length)) (hw : w.heap[b]? = some (.cells c' e fr))
  (h : valAt P t c off = some v) : ∃ v', VR ρ v v' ∧ (Instr.loadAt t (.pointer (some ⟨b, off, none⟩))).run P w = .ok v' w := by
 obtain ⟨v', hr, ⟨i, l, hi, rfl, hl, hlen, hd⟩ | ⟨hv, d, hd, h1, h2⟩⟩ := valAt_R hc h
 ·refine ⟨_, hr, ?_⟩
  have hcell : ∀ j v, l[j]? = some v → w.cell? ((⟨b, off, none⟩ : Addr).add j) = some v := by
   intro j v hv
   rw [Addr.add_plain, cell_at hw]
   rw [hl, List.getElem?_take] at hv
   split at hv
   ·rw [List.getElem?_drop, List.getElem?_take] at hv
    split at hv
    ·simpa using hv
    ·cases hv
   ·cases hv
  have hrun := run_loadCells_list (P := P) w ⟨b, off, none⟩ l hcell
  rw [hlen] at hrun
  rcases hd with ⟨fs, hd⟩ | ⟨n, el, hd⟩ <;>
   (simp only [Instr.loadAt, Instr.sureAddr, loadVar, isAgg, Sem.run_bind, Sem.run_pure, run_underlying hd, Result.andThen_ok, if_true, sizeOf, typeInfo, run_program, hi, hrun])
 ·refine ⟨_, hr, ?_⟩
  have hv' : w.cell? ⟨b, off, none⟩ = some v' := by
   rw [cell_at hw]
   rw [List.getElem?_take] at hv
   split at hv
   ·simpa using hv
   ·cases hv
  have hna : (isAgg t).run P w = .ok false w := by
   simp only [isAgg, Sem.run_bind, run_underlying hd, Result.andThen_ok]
   cases d <;> first | rfl | exact absurd rfl (h1 _) | exact absurd rfl (h2 _ _)
  simp only [Instr.loadAt, Instr.sureAddr, loadVar, Sem.run_bind, Sem.run_pure, hna, Result.andThen_ok, Bool.false_eq_true, if_false, run_load, hv']
def KeysAre (es : List (Value × Value × Nat)) (es' : List MapEntry) : Prop := es.length = es'.length ∧ ∀ (j : Nat) x e, es[j]? = some x → es'[j]? = some e → e.key = x.1
def dummy (x : Value × Value × Nat) : MapEntry := { key := x.1, val := .nilFunc, born := 0 }
theorem KeysAre.cons_inv {x : Value × Value × Nat} {r : List (Value × Value × Nat)} {es' : List MapEntry} (h : KeysAre (x :: r) es') : ∃ e r', es' = e :: r' ∧ e.key = x.1 ∧ KeysAre r r' := by
 cases es' with
 | nil => have := h.1; simp at this
 | cons e r' => exact ⟨e, r', rfl, h.2 0 x e rfl rfl, by simpa using h.1, fun j a b ha hb => h.2 (j + 1) a b (by simpa using ha) (by simpa using hb)⟩
def fixV (es' : List MapEntry) (i : Nat) : Option (Nat × Value) → Option (Nat × Value)
 | none => none
 | some (j, _) => some (j, ((es'[j - i]?).map (·.val)).getD .nilFunc)
theorem findNow_R (d : TypeDesc) (k : Value) : ∀ {es : List (Value × Value × Nat)} {es' : List MapEntry} (i : Nat), KeysAre es es' →
  Instr.findNow d k es' i = (Instr.findNow d k (es.map dummy) i).map (fixV es' i) ∧ (∀ j v, Instr.findNow d k (es.map dummy) i = some (some (j, v)) → i ≤ j ∧ j < i + es.length)
 | [], es', i, h => by
  have : es' = [] := by have := h.1; exact List.length_eq_zero_iff.1 (by simpa using this.symm)
  subst this
  exact ⟨rfl, fun j v h => by simp [Instr.findNow] at h⟩
 | x :: r, es', i, h => by
  obtain ⟨e, r', rfl, hk, hr⟩ := h.cons_inv
  obtain ⟨ih, ihl⟩ := findNow_R d k (i + 1) hr
  simp only [List.map_cons, Instr.findNow]
  rw [hk]
  have hx : (dummy x).key = x.1 := rfl
  rw [hx]
  cases Instr.sameNow d k x.1 with
  | none => exact ⟨rfl, fun j v h => by simp at h⟩
  | some bb =>
   cases bb with
   | true =>
    refine ⟨by simp [fixV], fun j v h => ?_⟩
    simp at h; obtain ⟨rfl, _⟩ := h; simp
   | false =>
    refine ⟨?_, fun j v h => ?_⟩
    ·simp only
     rw [ih]
     cases hf : Instr.findNow d k (r.map dummy) (i + 1) with
     | none => rfl
     | some o => cases o with
      | none => rfl
      | some jv =>
       obtain ⟨j, v⟩ := jv
       have := ihl j v hf
       simp only [Option.map_some, fixV]
       rw [show j - i = (j - (i + 1)) + 1 by omega, List.getElem?_cons_succ]
    ·have := ihl j v h
     simp only [List.length_cons]; omega
theorem findAsking_R {kt : TypeId} {k : Value} : ∀ {es : List (Value × Value × Nat)} {es' : List MapEntry} (i : Nat) {r : Option (Nat × Value)}, KeysAre es es' →
  prun P (Instr.findAsking kt k (es.map dummy) i) = .ok r → (∀ w, (Instr.findAsking kt k es' i).run P w = .ok (fixV es' i r) w) ∧ (∀ j v, r = some (j, v) → i ≤ j ∧ j < i + es.length)
 | [], es', i, r, h, hp => by
  have : es' = [] := by have := h.1; exact List.length_eq_zero_iff.1 (by simpa using this.symm)
  subst this
  simp only [List.map_nil, Instr.findAsking] at hp ⊢
  cases hp
  exact ⟨fun w => rfl, fun j v h => by cases h⟩
 | x :: l, es', i, r, h, hp => by
  obtain ⟨e, r', rfl, hk, hr⟩ := h.cons_inv
  simp only [List.map_cons, Instr.findAsking, prun_bind'] at hp
  have hx : (dummy x).key = x.1 := rfl
  rw [hx] at hp
  split at hp
  ·rename_i bb hb
   have hrun := fun w => prun_ok hb w
   cases bb with
   | true =>
    simp only [if_true] at hp
    cases hp
    refine ⟨fun w => ?_, fun j v h => ?_⟩
    ·simp only [Instr.findAsking, Sem.run_bind, hk, hrun, Result.andThen_ok, if_true, Sem.run_pure]
     simp [fixV]
    ·cases h; simp
   | false =>
    simp only [Bool.false_eq_true, if_false] at hp
    obtain ⟨ih, ihl⟩ := findAsking_R (i + 1) hr hp
    refine ⟨fun w => ?_, fun j v h => ?_⟩
    ·simp only [Instr.findAsking, Sem.run_bind, hk, hrun, Result.andThen_ok, Bool.false_eq_true, if_false, ih]
     cases r with
     | none => rfl
     | some jv =>
      obtain ⟨j, v⟩ := jv
      have := ihl j v rfl
      simp only [fixV]
      rw [show j - i = (j - (i + 1)) + 1 by omega, List.getElem?_cons_succ]
    ·have := ihl j v h
     simp only [List.length_cons]; omega
  ·cases hp
  ·cases hp
theorem findKey_R {kt : TypeId} {k : Value} {es : List (Value × Value × Nat)} {es' : List MapEntry} {r : Option (Nat × Value)} (hk : KeysAre es es')
  (hp : prun P (Instr.findKey kt k (es.map dummy)) = .ok r) : (∀ w, (Instr.findKey kt k es').run P w = .ok (fixV es' 0 r) w) ∧ (∀ j v, r = some (j, v) → j < es.length) := by
 simp only [Instr.findKey, prun_bind'] at hp
 split at hp
 ·rename_i d hd
  have hrun := fun w => prun_ok hd w
  obtain ⟨hn, hnl⟩ := findNow_R d k 0 hk
  cases hf : Instr.findNow d k (es.map dummy) 0 with
  | none =>
   rw [hf] at hp hn
   obtain ⟨h1, h2⟩ := findAsking_R 0 hk hp
   refine ⟨fun w => ?_, fun j v h => by have := h2 j v h; omega⟩
   simp only [Instr.findKey, Sem.run_bind, hrun, Result.andThen_ok, hn, Option.map_none, h1]
  | some o =>
   rw [hf] at hp hn
   simp only at hp
   cases hp
   refine ⟨fun w => ?_, fun j v h => by have := hnl j v (by rw [hf, h]); omega⟩
   simp only [Instr.findKey, Sem.run_bind, hrun, Result.andThen_ok, hn, Option.map_some]
   rfl
 ·cases hp
 ·cases hp
theorem findS_sound {kt : TypeId} {k : Value} {es : List (Value × Value × Nat)} {es' : List MapEntry} {r : Option (Nat × Value)} (hk : KeysAre es es') (h : findS P kt k es = some r) :
  match r with
  | none => ∀ w, (Instr.findKey kt k es').run P w = .ok none w
  | some (i, v) => ∃ x e, es[i]? = some x ∧ x.2.1 = v ∧ es'[i]? = some e ∧ ∀ w, (Instr.findKey kt k es').run P w = .ok (some (i, e.val)) w := by
 unfold findS at h
 split at h
 ·rename_i hp
  cases h
  exact (findKey_R hk hp).1
 ·rename_i i u hp
  split at h
  ·rename_i x hx
   cases h
   obtain ⟨h1, h2⟩ := findKey_R hk hp
   have hlt : i < es'.length := by have := h2 i u rfl; rw [← hk.1]; exact this
   refine ⟨x, es'[i], hx, rfl, by simp [hlt], fun w => ?_⟩
   rw [h1]
   simp [fixV, hlt]
  ·cases h
 ·cases h
theorem keysAre_of {es : List (Value × Value × Nat)} {es' : Array MapEntry} (hl : es.length = es'.size) (h : ∀ (j : Nat) x e, es[j]? = some x → es'[j]? = some e → EntR ρ x e) : KeysAre es es'.toList :=
 ⟨by simpa using hl, fun j x e a b => (h j x e a (by simpa using b)).2.1⟩
theorem run_getObj_map {w : World} {b : Nat} {es : Array MapEntry} {clock : Nat} (h : w.heap[b]? = some (.map es clock)) : (getObj b).run P w = .ok (.map es clock) w := by
 simp only [getObj, Sem.run, h]
theorem lookupS_sound {t : TypeId} {es : List (Value × Value × Nat)} {es' : Array MapEntry} {k v : Value} {ok : Bool} (hl : es.length = es'.size) (hE : ∀ (j : Nat) x e, es[j]? = some x → es'[j]? = some e → EntR ρ x e)
  (h : lookupS P t es k ok = some v) {x : Value} {w : World} (hx : (x = .map none ∧ es' = #[]) ∨ ∃ b clock, x = .map (some b) ∧ w.heap[b]? = some (.map es' clock)) :
  ∃ v', VR ρ v v' ∧ (Instr.lookup t x k ok).run P w = .ok v' w := by
 have hemp : es'.isEmpty = es.isEmpty := by
  cases es with
  | nil => simp at hl; simp [Array.isEmpty, ← hl]
  | cons => simp at hl; simp [Array.isEmpty, ← hl]
 unfold lookupS at h
 split at h
 ·rename_i kt el hu
  split at h
  ·rename_i i hck hi
   have hck' := fun w => prun_ok hck w
   rw [← hemp] at hck'
   split at h
   ·rename_i j v0 hf
    obtain ⟨x0, e, h1, h2, h3, h4⟩ := findS_sound (keysAre_of hl hE) hf
    have hv := (hE j x0 e h1 (by simpa using h3)).2.2.1
    rw [h2] at hv
    cases h
    refine ⟨bif ok then .tuple #[e.val, .bool true] else e.val, ?_, ?_⟩
    ·cases ok
     ·exact hv
     ·exact VR.of_tuple (LR.cons hv (LR.cons (.bool true) (LR.nil ρ)))
    ·rcases hx with ⟨rfl, rfl⟩ | ⟨b, clock, rfl, hb⟩
     ·simp only [Instr.lookup, Sem.run_bind, run_underlying (und_some hu), Result.andThen_ok, Sem.run_pure, hck', h4]
      cases ok <;> rfl
     ·simp only [Instr.lookup, Sem.run_bind, run_underlying (und_some hu), Result.andThen_ok, Sem.run_pure, run_getObj_map hb, hck', h4]
      cases ok <;> rfl
   ·rename_i hf
    have h4 := findS_sound (keysAre_of hl hE) hf
    split at h
    ·rename_i z hz
     obtain ⟨hp, h⟩ := cond_some h
     cases h
     refine ⟨bif ok then .tuple #[z, .bool false] else z, ?_, ?_⟩
     ·cases ok
      ·exact plain_refl ρ hp
      ·exact VR.of_tuple (LR.cons (plain_refl ρ hp) (LR.cons (.bool false) (LR.nil ρ)))
     ·have hzr : (zeroValue el).run P w = .ok z w := by simp only [zeroValue, Sem.run_bind, run_typeInfo' hi, Result.andThen_ok, hz, Sem.run_pure]
      rcases hx with ⟨rfl, rfl⟩ | ⟨b, clock, rfl, hb⟩
      ·simp only [Instr.lookup, Sem.run_bind, run_underlying (und_some hu), Result.andThen_ok, Sem.run_pure, hck', h4, hzr]
       cases ok <;> rfl
      ·simp only [Instr.lookup, Sem.run_bind, run_underlying (und_some hu), Result.andThen_ok, Sem.run_pure, run_getObj_map hb, hck', h4, hzr]
       cases ok <;> rfl
    ·cases h
   ·cases h
  ·cases h
 ·cases h
def HasR (P : Program) (ρ : Rho) (f : Operand → Value) (o : Oper) (v : Value) (w : World) : Prop := ∃ v', VR ρ v v' ∧ (execOp f o).run P w = .ok (.value v') w
theorem HasV.at_ {f : Operand → Value} {o : Oper} {v : Value} (h : HasV P ρ f o v) (w : World) : HasR P ρ f o v w := let ⟨v', a, b⟩ := h; ⟨v', a, b w⟩
theorem readOp_sound {G : Nat} {e : Env} {f : Operand → Value} (he : EnvR ρ e f) {σ : SW} {w : World} (hr : Rel G ρ σ w) {o : Oper} {v : Value} (h : readOp P e o σ = some v) : HasR P ρ f o v w := by
 obtain ⟨dst, op, ty, pos, after, guard⟩ := o
 cases op <;> try (simp only [readOp] at h; exact (pureOp_sound he h).at_ w)
 case load t x =>
  simp only [readOp] at h
  split at h
  ·rename_i i off hx
   split at h
   ·rename_i c hc
    obtain ⟨b, cc, c', el, hρ, hw, hL, _⟩ := cells_live hr hc
    obtain ⟨b', cc', hρ', hx'⟩ := (he x _ hx).ptr_inv
    rw [hρ] at hρ'; cases hρ'
    obtain ⟨v', hv', hrun⟩ := load_sound hL hw h
    exact ⟨v', hv', run_v (by rw [hx']; exact hrun)⟩
   ·cases h
  ·cases h
 case lookup t x k ok =>
  simp only [readOp] at h
  split at h
  ·rename_i kv hx hk
   obtain ⟨hp, h⟩ := cond_some h
   have hk' := plain_eq hp (he k _ hk)
   have hx' : f x = .map none := by
    have := he x _ hx
    generalize f x = y at this
    cases this; rfl
   obtain ⟨v', hv', hrun⟩ := lookupS_sound (ρ := ρ) (es' := #[]) rfl (fun j x e a => by simp at a) h (x := .map none) (w := w) (.inl ⟨rfl, rfl⟩)
   exact ⟨v', hv', run_v (by rw [hx', hk']; exact hrun)⟩
  ·rename_i i kv hx hk
   split at h
   ·rename_i es clock hg
    obtain ⟨hp, h⟩ := cond_some h
    have hk' := plain_eq hp (he k _ hk)
    obtain ⟨_, b, cc, o', hρ, hw, ho⟩ := hr.live _ _ hg
    cases o' <;> simp only [ObjR] at ho
    obtain ⟨rfl, hl, hE⟩ := ho
    have hx' : ∃ b' c', ρ i = some (b', c') ∧ f x = .map (some b') := by
     have := he x _ hx
     generalize f x = y at this
     cases this with | map _ b' c' h => exact ⟨b', c', h, rfl⟩
    obtain ⟨b', c', h1, hx'⟩ := hx'
    rw [hρ] at h1; cases h1
    obtain ⟨v', hv', hrun⟩ := lookupS_sound (ρ := ρ) hl hE h (x := .map (some b)) (w := w) (.inr ⟨b, _, rfl, hw⟩)
    exact ⟨v', hv', run_v (by rw [hx', hk']; exact hrun)⟩
   ·cases h
  ·cases h
 case entry x =>
  simp only [readOp] at h
  split at h
  ·rename_i i hx
   split at h
   ·rename_i m since seen st hg
    split at h
    ·rename_i bn es clock hs hm
     obtain ⟨hq, h⟩ := cond_some h
     split at h
     ·rename_i x0 hf
      cases h
      obtain ⟨b, cc, hρ, hx'⟩ := (he x _ hx).ptr_inv
      obtain ⟨_, b', cc', o', hρ', hw, ho⟩ := hr.live _ _ hg
      rw [hρ] at hρ'; cases hρ'
      cases o' <;> simp only [ObjR] at ho
      rename_i m' since' seen' st'
      obtain ⟨rfl, rfl, rfl, hm'⟩ := ho
      cases m' with
      | none => exact hm'.elim
      | some mb =>
       obtain ⟨c3, hρm⟩ := hm'
       obtain ⟨_, b3, c4, o3, hρ3, hw3, ho3⟩ := hr.live _ _ hm
       rw [hρm] at hρ3; cases hρ3
       cases o3 <;> simp only [ObjR] at ho3
       rename_i es' clock'
       obtain ⟨rfl, hl, hE⟩ := ho3
       have hcl := Nat.eq_of_beq_eq_true hq
       have hfind : ∃ e, es'.find? (fun e => e.born == bn) = some e ∧ EntR ρ x0 e := by
        rw [List.find?_eq_some_iff_getElem] at hf
        obtain ⟨hb0, j, hj, hxj, hbef⟩ := hf
        have hj' : j < es'.size := by omega
        refine ⟨es'[j], ?_, hE j x0 _ (by rw [List.getElem?_eq_getElem hj, hxj]) (by simp [hj'])⟩
        rw [Array.find?_eq_some_iff_getElem]
        have hee := fun k (hk : k < es.length) => hE k es[k] es'[k] (by simp [hk]) (by simp [show k < es'.size by omega])
        refine ⟨?_, j, hj', rfl, fun k hk => ?_⟩
        ·have := (hee j hj).2.2.2
         rw [hxj] at this
         rw [this]; exact (by simpa using Nat.eq_of_beq_eq_true hb0)
        ·have h1 := hbef k hk
         have := (hee k (by omega)).2.2.2
         rw [this]
         simp only [Bool.not_eq_true', beq_eq_false_iff_ne, ne_eq]
         intro e0
         rw [e0, Nat.beq_refl] at h1
         simp at h1
       obtain ⟨e, hfe, hE0⟩ := hfind
       refine ⟨.tuple #[e.key, e.val], VR.of_tuple (LR.cons (by rw [hE0.2.1]; exact plain_refl ρ hE0.1) (LR.cons hE0.2.2.1 (LR.nil ρ))), run_v ?_⟩
       rw [hx']
       have hg1 : (getObj b).run P w = .ok (.mapIter (some mb) since' seen' st') w := by simp only [getObj, Sem.run, hw]
       have hback : seen'.back? = some bn := by rw [← Array.getLast?_toList]; exact hs
       simp only [Instr.entry, Sem.run_bind, hg1, Result.andThen_ok, hback, run_getObj_map hw3, hcl, bne_self_eq_false, Bool.false_eq_true, if_false, hfe, Sem.run_pure]
     ·cases h
    ·cases h
   ·cases h
  ·cases h
 case call c =>
  obtain ⟨callee, args, argTypes⟩ := c
  cases callee with
  | value g => simp only [readOp] at h; exact (pureOp_sound he h).at_ w
  | invoke r m => simp only [readOp] at h; exact (pureOp_sound he h).at_ w
  | builtin b =>
   cases b <;> simp only [readOp] at h <;> try exact (pureOp_sound he h).at_ w
   case len =>
    split at h
    ·rename_i x t hargs htys
     obtain rfl : args = #[x] := by cases args; simp at hargs; simp [hargs]
     obtain rfl : argTypes = #[t] := by cases argTypes; simp at htys; simp [htys]
     split at h
     ·rename_i a n c el hx hu
      cases h
      have := he x _ hx
      have hx' : ∃ a' c', f x = .slice (some a') n c' := by
       generalize f x = y at this
       cases this with
       | sl _ _ _ _ b _ _ _ => exact ⟨_, _, rfl⟩
       | slx _ _ b _ _ _ => exact ⟨_, _, rfl⟩
      obtain ⟨a', c', hx'⟩ := hx'
      refine ⟨_, .int .i64 n, ?_⟩
      simp [execOp, resolve, invoke, builtin, Builtin.len_, run_underlying (und_some hu), hx', goInt]
     ·rename_i i kt el hx hu
      split at h
      ·rename_i es clock hg
       cases h
       obtain ⟨_, b, cc, o', hρ, hw, ho⟩ := hr.live _ _ hg
       cases o' <;> simp only [ObjR] at ho
       rename_i es' clock'
       obtain ⟨rfl, hl, hE⟩ := ho
       have hx' : ∃ b' c', ρ i = some (b', c') ∧ f x = .map (some b') := by
        have := he x _ hx
        generalize f x = y at this
        cases this with | map _ b' c' h => exact ⟨b', c', h, rfl⟩
       obtain ⟨b', c', h1, hx'⟩ := hx'
       rw [hρ] at h1; cases h1
       refine ⟨_, .int .i64 es.length, ?_⟩
       simp [execOp, resolve, invoke, builtin, Builtin.len_, run_underlying (und_some hu), hx', goInt, run_getObj_map hw, hl]
      ·cases h
     ·exact (HasV.plain he h).at_ w
     ·cases h
    ·cases h
end
end Go.Sh
