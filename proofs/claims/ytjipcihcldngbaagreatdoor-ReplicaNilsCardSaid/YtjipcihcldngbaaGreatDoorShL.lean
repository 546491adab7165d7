/- Shadow evaluation, 12: stores. -/
import Derived.Test.YtjipcihcldngbaaGreatDoorShK
namespace Go.Sh
variable {P : Program} {ρ : Rho} {G : Nat}

structure Chg1 (w w' : World) (b : Nat) (o : Obj) : Prop where
  os : w'.os = w.os
  tape : w'.tape = w.tape
  output : w'.output = w.output
  size : w'.heap.size = w.heap.size
  at_ : w'.heap[b]? = some o
  other : ∀ k, k ≠ b → w'.heap[k]? = w.heap[k]?

theorem evo_chg {σ : SW} {w w' : World} (h : Rel G ρ σ w) {i b c : Nat} {o ob : SObj} {ob' : Obj} (hG : G ≤ i) (hg : σ.heap.get i = some o) (hρ : ρ i = some (b, c)) (hch : Chg1 w w' b ob') (ho : ObjR ρ c ob ob') :
    Evo G ρ σ w ρ { σ with heap := σ.heap.put i (some ob) } w' := evo_set h hG hg hρ ho hch.os hch.tape hch.output hch.size hch.at_ hch.other

theorem setCell_chg {w : World} {b : Nat} {c : Array Value} {e : TypeId} {fr : Nat × Nat} (h : w.heap[b]? = some (.cells c e fr)) (o : Nat) (v : Value) :
    Chg1 w (w.setCell ⟨b, o, none⟩ v) b (.cells (c.setIfInBounds o v) e fr) := by
  refine ⟨rfl, rfl, rfl, by simp [World.setCell], ?_, fun k hk => ?_⟩
  · simp only [World.setCell, Array.getElem?_modify, if_true, h, Option.map_some]
    simp
  · simp only [World.setCell, Array.getElem?_modify]
    rw [if_neg (Ne.symm hk)]

theorem setCells_chg {b : Nat} {e : TypeId} {fr : Nat × Nat} : ∀ (vs : List Value) (o : Nat) {w : World} {c : Array Value}, w.heap[b]? = some (.cells c e fr) → o + vs.length ≤ c.size →
    Chg1 w (w.setCells b o vs) b (.cells ⟨lay c.toList o vs⟩ e fr)
  | [], o, w, c, h, hl => ⟨rfl, rfl, rfl, rfl, by simp only [World.setCells, lay, List.nil_append, List.length_nil, Nat.add_zero, List.take_append_drop]; exact h, fun _ _ => rfl⟩
  | v :: r, o, w, c, h, hl => by
    have h1 := setCell_chg h o v
    simp only [List.length_cons] at hl
    have ih := setCells_chg r (o + 1) h1.at_ (by simp; omega)
    refine ⟨ih.os.trans h1.os, ih.tape.trans h1.tape, ih.output.trans h1.output, ih.size.trans h1.size, ?_, fun k hk => (ih.other k hk).trans (h1.other k hk)⟩
    have := ih.at_
    rw [Array.toList_setIfInBounds, lay_cons (by simp; omega)] at this
    exact this

theorem frozen_no {w : World} {b : Nat} {c : Array Value} {e : TypeId} {fr : Nat × Nat} (h : w.heap[b]? = some (.cells c e fr)) (hf : NoFr fr c.size) {o : Nat} (ho : o < c.size) : w.frozen? ⟨b, o, none⟩ = false := by
  obtain ⟨lo, hi⟩ := fr
  unfold World.frozen?; rw [h]
  unfold NoFr at hf
  simp only [Bool.and_eq_false_iff, decide_eq_false_iff_not]
  simp only at hf
  omega

theorem lay_take {c : List Value} {n off : Nat} {vs : List Value} (h : off + vs.length ≤ n) (hn : n ≤ c.length) : (lay c off vs).take n = lay (c.take n) off vs := by
  apply List.ext_getElem?
  intro j
  rw [List.getElem?_take, lay_get (by omega), lay_get (by simp; omega), List.getElem?_take]
  by_cases h1 : j < n
  · simp [h1]
  · simp only [h1, if_false]
    rw [if_neg (by omega), if_neg (by omega)]

theorem undefR (ρ : Rho) : VR ρ undef undef := VR.of_tuple (LR.nil ρ)

/-- What an operation that writes leaves. -/
def EffV (P : Program) (G : Nat) (ρ : Rho) (f : Operand → Value) (o : Oper) (σ : SW) (w : World) (v : Value) (σ' : SW) : Prop :=
  ∃ ρ' v' w', ((execOp f o).run P w = .ok (.value v') w' ∨ ((execOp f o).run P w = .ok .skip w' ∧ v' = undef)) ∧ VR ρ' v v' ∧ Evo G ρ σ w ρ' σ' w'

theorem run_u {s : Sem Unit} {w w' : World} (h : s.run P w = .ok () w') : (do s; pure Next.skip : Sem Next).run P w = .ok .skip w' := by
  simp only [Sem.run_bind, h, Result.andThen_ok, Sem.run_pure]

theorem store_sound (hG : G = P.globals.size) {σ σ' : SW} {w : World} (hr : Rel G ρ σ w) {t : TypeId} {i off b cc : Nat} {u u' : Value} (hu : VR ρ u u') (hρ : ρ i = some (b, cc)) (h : storeS P σ t i off u = some σ') :
    ∃ w', (Instr.storeAt t (.pointer (some ⟨b, off, none⟩)) u').run P w = .ok () w' ∧ Evo G ρ σ w ρ σ' w' := by
  unfold storeS at h
  split at h
  · rename_i ti hti
    obtain ⟨hb, h⟩ := cond_some h
    simp only [Bool.and_eq_true, List.all_eq_true] at hb
    obtain ⟨⟨h1, h2⟩, h3⟩ := hb
    have hlen := Nat.eq_of_beq_eq_true h1
    have hGi : G ≤ i := by rw [hG]; exact Nat.le_of_ble_eq_true h3
    have huc := hu.cells
    have hsz : u'.cells.size = ti.size := by have := huc.len; simp at this hlen; omega
    have hone : ∀ v ∈ u'.cells.toList, v.oneCell' = true := by
      intro v hv
      obtain ⟨j, hj, rfl⟩ := List.getElem_of_mem hv
      have hj' : j < u.cells.toList.length := by rw [huc.len]; exact hj
      have := huc.at_ j u.cells.toList[j] u'.cells.toList[j] (by simp) (by simp)
      rw [← this.oneCell]
      exact h2 _ (List.getElem_mem hj')
    have run : ∀ {c' : Array Value} {e : TypeId} {fr : Nat × Nat}, w.heap[b]? = some (.cells c' e fr) → NoFr fr c'.size → off + u'.cells.toList.length ≤ c'.size →
        (Instr.storeAt t (.pointer (some ⟨b, off, none⟩)) u').run P w = .ok () (w.setCells b off u'.cells.toList) := by
      intro c' e fr hw hfr hle
      have hst := run_storeCells_cells (P := P) b off u'.cells.toList 0 w (fun j hj => by
        rw [cell_at hw]; simp; omega) (fun j hj => frozen_no hw hfr (by omega)) hone
      simp only [Nat.add_zero] at hst
      simp only [Instr.storeAt, Instr.sureAddr, storeVar, Sem.run_bind, Sem.run_pure, Result.andThen_ok, run_sizeOf' hti, hsz, ne_eq, not_true_eq_false, if_false, hst]
    split at h
    · rename_i c e hg
      obtain ⟨hle, h⟩ := cond_some h
      cases h
      have hle := Nat.le_of_ble_eq_true hle
      obtain ⟨_, b', cc', o', hρ', hw, ho⟩ := hr.live _ _ hg
      rw [hρ] at hρ'; cases hρ'
      cases o' <;> simp only [ObjR] at ho
      rename_i c' e' fr
      obtain ⟨rfl, hfr, hL⟩ := ho
      have hle' : off + u'.cells.toList.length ≤ c'.size := by rw [← huc.len]; have := hL.len; simp at this; omega
      have hch := setCells_chg u'.cells.toList off hw hle'
      exact ⟨_, run hw hfr hle', evo_chg hr hGi hg hρ hch ⟨rfl, by rw [show (⟨lay c'.toList off u'.cells.toList⟩ : Array Value).size = c'.size from lay_length (by simpa using hle')]; exact hfr, hL.lay huc off⟩⟩
    · rename_i c e sz hg
      obtain ⟨hle, h⟩ := cond_some h
      cases h
      have hle := Nat.le_of_ble_eq_true hle
      obtain ⟨_, b', cc', o', hρ', hw, ho⟩ := hr.live _ _ hg
      rw [hρ] at hρ'; cases hρ'
      cases o' <;> simp only [ObjR] at ho
      rename_i c' e' fr
      obtain ⟨rfl, hfr, hsz', hcl, hL⟩ := ho
      have hle' : off + u'.cells.toList.length ≤ c'.size := by rw [← huc.len]; omega
      have hch := setCells_chg u'.cells.toList off hw hle'
      refine ⟨_, run hw hfr hle', evo_chg hr hGi hg hρ hch ⟨rfl, by rw [show (⟨lay c'.toList off u'.cells.toList⟩ : Array Value).size = c'.size from lay_length (by simpa using hle')]; exact hfr, ?_, ?_, ?_⟩⟩
      · have := lay_length (c := c'.toList) (off := off) (vs := u'.cells.toList) (by simpa using hle')
        simp at this ⊢; omega
      · rw [lay_length hle]
        have := lay_length (c := c'.toList) (off := off) (vs := u'.cells.toList) (by simpa using hle')
        simp at this ⊢; omega
      · rw [lay_length hle]
        simp only
        rw [lay_take (by rw [← huc.len]; exact hle) (by simpa using hcl)]
        exact hL.lay huc off
    · cases h
  · cases h

theorem run_setObj {w : World} {b : Nat} {o o' : Obj} (h : w.heap[b]? = some o) (hn : ∀ c e f, o ≠ .cells c e f) : (setObj b o').run P w = .ok () { w with heap := w.heap.setIfInBounds b o' } := by
  simp only [setObj, Sem.run, h]
theorem run_getObj {w : World} {b : Nat} {o : Obj} (h : w.heap[b]? = some o) (hn : ∀ c e f, o ≠ .cells c e f) : (getObj b).run P w = .ok o w := by
  simp only [getObj, Sem.run, h]
theorem setObj_chg {w : World} {b : Nat} {o o' : Obj} (h : w.heap[b]? = some o) : Chg1 w { w with heap := w.heap.setIfInBounds b o' } b o' :=
  ⟨rfl, rfl, rfl, by simp, by simp [heap_lt h], fun k hk => by simp [Ne.symm hk]⟩

theorem mapUpdate_sound (hG : G = P.globals.size) {σ σ' : SW} {w : World} (hr : Rel G ρ σ w) {t : TypeId} {i b cc : Nat} {k v v' : Value} (hv : VR ρ v v') (hρ : ρ i = some (b, cc)) (h : mapUpdateS P t i k v σ = some σ') :
    plain k = true ∧ ∃ w', (Instr.mapUpdate t (.map (some b)) k v').run P w = .ok () w' ∧ Evo G ρ σ w ρ σ' w' := by
  unfold mapUpdateS at h
  split at h
  · rename_i kt el es clock hu hg
    obtain ⟨hb, h⟩ := cond_none h
    simp only [Bool.not_eq_false', Bool.and_eq_true] at hb
    have hGi : G ≤ i := by rw [hG]; exact Nat.le_of_ble_eq_true hb.2
    refine ⟨hb.1, ?_⟩
    obtain ⟨_, b', cc', o', hρ', hw, ho⟩ := hr.live _ _ hg
    rw [hρ] at hρ'; cases hρ'
    cases o' <;> simp only [ObjR] at ho
    rename_i es' clock'
    obtain ⟨rfl, hl, hE⟩ := ho
    split at h
    · rename_i j v0 hck hf
      obtain ⟨x0, e, h1, h2, h3, h4⟩ := findS_sound (keysAre_of hl hE) hf
      split at h
      · rename_i x hx
        rw [h1] at hx; cases hx
        split at h
        · rename_i k' hk'
          obtain ⟨hp, h⟩ := cond_some h
          cases h
          have hck' := fun w => prun_ok hck w
          have hks := fun w => prun_ok hk' w
          have h3' : es'[j]? = some e := by simpa using h3
          have hE0 := hE j x0 e h1 h3'
          have hch := setObj_chg (o' := .map (es'.modify j fun e => { e with key := k', val := v' }) clock') hw
          refine ⟨_, ?_, evo_chg hr hGi hg hρ hch ⟨rfl, by simpa using hl, fun m x y hx hy => ?_⟩⟩
          · simp only [Instr.mapUpdate, Sem.run_bind, run_underlying (und_some hu), Result.andThen_ok, run_getObj_map hw, hck', h4, h3', Option.map_some, Option.getD_some, hE0.2.1, hks]
            exact run_setObj hw (by simp)
          · rw [List.getElem?_set] at hx
            rw [Array.getElem?_modify] at hy
            by_cases em : j = m
            · subst em
              rw [if_pos rfl] at hx hy
              rw [if_pos (List.getElem?_eq_some_iff.1 h1).1] at hx
              rw [h3'] at hy
              cases hx; cases hy
              exact ⟨hp, rfl, hv, hE0.2.2.2⟩
            · rw [if_neg em] at hx hy
              exact hE m x y hx hy
        · cases h
      · cases h
    · rename_i hck hf
      cases h
      have h4 := findS_sound (keysAre_of hl hE) hf
      have hck' := fun w => prun_ok hck w
      have hch := setObj_chg (o' := .map (es'.push { key := k, val := v', born := clock' }) (clock' + 1)) hw
      refine ⟨_, ?_, evo_chg hr hGi hg hρ hch ⟨rfl, by simp [hl], fun m x y hx hy => ?_⟩⟩
      · simp only [Instr.mapUpdate, Sem.run_bind, run_underlying (und_some hu), Result.andThen_ok, run_getObj_map hw, hck', h4]
        exact run_setObj hw (by simp)
      · rw [Array.getElem?_push] at hy
        by_cases em : m = es'.size
        · rw [if_pos em] at hy
          rw [List.getElem?_append_right (by omega)] at hx
          have : m - es.length = 0 := by omega
          rw [this] at hx
          simp at hx hy
          subst hx; subst hy
          exact ⟨hb.1, rfl, hv, rfl⟩
        · rw [if_neg em] at hy
          have hm : m < es'.size := (Array.getElem?_eq_some_iff.1 hy).1
          rw [List.getElem?_append_left (by omega)] at hx
          exact hE m x y hx hy
    · cases h
  · cases h

theorem delete_sound (hG : G = P.globals.size) {σ σ' : SW} {w : World} (hr : Rel G ρ σ w) {t tk ty : TypeId} {i b cc : Nat} {k : Value} (hρ : ρ i = some (b, cc)) (h : deleteS P t i k σ = some σ') :
    plain k = true ∧ ∃ w', (Builtin.delete_ #[t, tk] ty #[.map (some b), k]).run P w = .ok undef w' ∧ Evo G ρ σ w ρ σ' w' := by
  unfold deleteS at h
  split at h
  · rename_i kt el es clock hu hg
    obtain ⟨hb, h⟩ := cond_none h
    simp only [Bool.not_eq_false', Bool.and_eq_true] at hb
    have hGi : G ≤ i := by rw [hG]; exact Nat.le_of_ble_eq_true hb.2
    refine ⟨hb.1, ?_⟩
    obtain ⟨_, b', cc', o', hρ', hw, ho⟩ := hr.live _ _ hg
    rw [hρ] at hρ'; cases hρ'
    cases o' <;> simp only [ObjR] at ho
    rename_i es' clock'
    obtain ⟨rfl, hl, hE⟩ := ho
    have hemp : es'.isEmpty = es.isEmpty := by
      cases es with
      | nil => simp at hl; simp [Array.isEmpty, ← hl]
      | cons => simp at hl; simp [Array.isEmpty, ← hl]
    split at h
    · rename_i j v0 hck hf
      obtain ⟨x0, e, h1, h2, h3, h4⟩ := findS_sound (keysAre_of hl hE) hf
      cases h
      have hck' := fun w => prun_ok hck w
      rw [← hemp] at hck'
      have hch := setObj_chg (o' := .map (es'.eraseIdxIfInBounds j) clock') hw
      refine ⟨_, ?_, evo_chg hr hGi hg hρ hch ⟨rfl, ?_, fun m x y hx hy => ?_⟩⟩
      · have hset := run_setObj (P := P) (o' := .map (es'.eraseIdxIfInBounds j) clock') hw (by simp)
        simp [Builtin.delete_, run_underlying (und_some hu), run_getObj_map hw, hck', h4, hset]
        rfl
      · have h5 := congrArg List.length (Array.toList_eraseIdxIfInBounds (xs := es') (i := j))
        rw [Array.length_toList] at h5
        have e1 : es'.toList.length = es.length := by rw [Array.length_toList, hl]
        rw [h5, List.length_eraseIdx, List.length_eraseIdx, e1]
      · rw [← Array.getElem?_toList, Array.toList_eraseIdxIfInBounds, List.getElem?_eraseIdx] at hy
        rw [List.getElem?_eraseIdx] at hx
        split at hx
        · rename_i hlt
          rw [if_pos hlt] at hy
          exact hE m x y hx (by simpa using hy)
        · rename_i hlt
          rw [if_neg hlt] at hy
          exact hE (m + 1) x y hx (by simpa using hy)
    · rename_i hck hf
      cases h
      have h4 := findS_sound (keysAre_of hl hE) hf
      have hck' := fun w => prun_ok hck w
      rw [← hemp] at hck'
      have hch := setObj_chg (o' := .map es' clock') hw
      refine ⟨_, ?_, evo_chg hr hGi hg hρ hch ⟨rfl, hl, hE⟩⟩
      have hset := run_setObj (P := P) (o' := .map es' clock') hw (by simp)
      simp [Builtin.delete_, run_underlying (und_some hu), run_getObj_map hw, hck', h4, hset]
      rfl
    · cases h
  · cases h

theorem evo_obj {σ : SW} {w : World} (hr : Rel G ρ σ w) (hf : ρ σ.next = none) {ob : SObj} {ob' : Obj} (ho : ∀ ρ', Ext ρ ρ' → ObjR ρ' 0 ob ob') :
    Evo G ρ σ w (upd ρ σ.next (w.heap.size, 0)) (σ.push ob) (w.alloc ob') :=
  evo_push hr hf (ho _ (upd_ext hf)) rfl rfl rfl rfl

theorem range_sound {σ : SW} {w : World} (hr : Rel G ρ σ w) (hf : ρ σ.next = none) {t : TypeId} {x x' : Value} (hx : VR ρ x x') {ob : SObj} (h : rangeS P t x σ = some ob) :
    ∃ v' w' ρ', (Instr.range t x').run P w = .ok v' w' ∧ VR ρ' (.pointer (some ⟨σ.next, 0, none⟩)) v' ∧ Evo G ρ σ w ρ' (σ.push ob) w' := by
  have fin : ∀ {ob' : Obj}, (∀ ρ', Ext ρ ρ' → ObjR ρ' 0 ob ob') → VR (upd ρ σ.next (w.heap.size, 0)) (.pointer (some ⟨σ.next, 0, none⟩)) (.pointer (some ⟨w.heap.size, 0, none⟩)) ∧ Evo G ρ σ w (upd ρ σ.next (w.heap.size, 0)) (σ.push ob) (w.alloc ob') :=
    fun ho => ⟨.ptr _ _ _ 0 (upd_same _ _ _), evo_obj hr hf ho⟩
  unfold rangeS at h
  split at h
  · rename_i s hu
    cases h
    cases hx
    obtain ⟨h1, h2⟩ := fin (ob' := .stringIter s 0) (fun ρ' _ => ⟨rfl, rfl⟩)
    refine ⟨_, _, _, ?_, h1, h2⟩
    simp only [Instr.range, Sem.run_bind, run_underlying (und_some hu), Result.andThen_ok, Sem.run_pure, run_newObj]
    rfl
  · rename_i kt el hu
    cases h
    cases hx
    obtain ⟨h1, h2⟩ := fin (ob' := .mapIter none 0 #[] 0) (fun ρ' _ => ⟨rfl, rfl, rfl, trivial⟩)
    refine ⟨_, _, _, ?_, h1, h2⟩
    simp only [Instr.range, Sem.run_bind, run_underlying (und_some hu), Result.andThen_ok, Sem.run_pure, run_newObj]
    rfl
  · rename_i kt el i hu
    split at h
    · rename_i es clock hg
      cases h
      obtain ⟨_, b, cc, o', hρ, hw, ho⟩ := hr.live _ _ hg
      cases hx with
      | map _ b' c' hb' =>
      rw [hρ] at hb'; cases hb'
      cases o' <;> simp only [ObjR] at ho
      obtain ⟨rfl, hl, hE⟩ := ho
      obtain ⟨h1, h2⟩ := fin (ob' := .mapIter (some b) _ #[] _) (fun ρ' hx => ⟨rfl, rfl, rfl, cc, hx _ _ hρ⟩)
      refine ⟨_, _, _, ?_, h1, h2⟩
      simp only [Instr.range, Sem.run_bind, run_underlying (und_some hu), Result.andThen_ok, Sem.run_pure, run_newObj, run_getObj_map hw]
      rfl
    · cases h
  · cases h

end Go.Sh
