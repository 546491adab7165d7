/- Shadow evaluation, 11: how a shadow heap and a world go on; what lays a block; stores. -/
import Derived.Test.YtjipcihcldngbaaGreatDoorShJ
namespace Go.Sh
variable {P : Program} {ρ : Rho} {G : Nat}

structure Evo (G : Nat) (ρ : Rho) (σ : SW) (w : World) (ρ' : Rho) (σ' : SW) (w' : World) : Prop where
  ext : Ext ρ ρ'
  only : ∀ i, (i < σ.next ∨ σ'.next ≤ i) → ρ' i = ρ i
  next : σ.next ≤ σ'.next
  lv : ∀ i o, σ'.heap.get i = some o → i < σ.next → ∃ p, σ.heap.get i = some p
  nw : ∀ i o b c, σ'.heap.get i = some o → σ.next ≤ i → ρ' i = some (b, c) → w.heap.size ≤ b ∨ ∃ j p d, G ≤ j ∧ σ.heap.get j = some p ∧ ρ j = some (b, d)
  rel : Rel G ρ' σ' w'
  keep : Keep G ρ σ w w'

def Fresh (ρ : Rho) (σ σ' : SW) : Prop := ∀ i, σ.next ≤ i → i < σ'.next → ρ i = none

theorem Evo.refl {σ : SW} {w : World} (h : Rel G ρ σ w) : Evo G ρ σ w ρ σ w :=
  ⟨Ext.refl ρ, fun _ _ => rfl, Nat.le_refl _, fun i o h _ => ⟨o, h⟩, fun i o b c hg hn _ => by have := (h.live i o hg).1; omega, h, ⟨rfl, rfl, rfl, Nat.le_refl _, fun _ _ _ => rfl⟩⟩

theorem Evo.trans {ρ1 ρ2 : Rho} {σ σ1 σ2 : SW} {w w1 w2 : World} (h : Evo G ρ σ w ρ1 σ1 w1) (k : Evo G ρ1 σ1 w1 ρ2 σ2 w2) : Evo G ρ σ w ρ2 σ2 w2 := by
  refine ⟨h.ext.trans k.ext, fun i hi => ?_, Nat.le_trans h.next k.next, fun i o hg hn => ?_, fun i o b c hg hn hρ => ?_, k.rel, ?_⟩
  · rw [k.only i (by have := h.next; have := k.next; omega), h.only i (by have := k.next; omega)]
  · obtain ⟨p, hp⟩ := k.lv i o hg (by have := h.next; omega)
    exact h.lv i p hp hn
  · by_cases h1 : i < σ1.next
    · obtain ⟨p, hp⟩ := k.lv i o hg h1
      rw [k.only i (.inl h1)] at hρ
      exact h.nw i p b c hp hn hρ
    · rcases k.nw i o b c hg (by omega) hρ with h2 | ⟨j, p, d, hj, hp, hd⟩
      · exact .inl (Nat.le_trans h.keep.size h2)
      · by_cases h3 : j < σ.next
        · obtain ⟨q, hq⟩ := h.lv j p hp h3
          rw [h.only j (.inl h3)] at hd
          exact .inr ⟨j, q, d, hj, hq, hd⟩
        · exact h.nw j p b d hp (by omega) hd
  · refine ⟨k.keep.os.trans h.keep.os, k.keep.tape.trans h.keep.tape, k.keep.output.trans h.keep.output, Nat.le_trans h.keep.size k.keep.size, fun b hb hn => ?_⟩
    rw [k.keep.block b (Nat.lt_of_lt_of_le hb h.keep.size) ?_, h.keep.block b hb hn]
    intro i o c hi hg hρ
    by_cases h3 : i < σ.next
    · obtain ⟨q, hq⟩ := h.lv i o hg h3
      rw [h.only i (.inl h3)] at hρ
      exact hn i q c hi hq hρ
    · rcases h.nw i o b c hg (by omega) hρ with h2 | ⟨j, p, d, hj, hp, hd⟩
      · omega
      · exact hn j p d hj hp hd

/-- The world has gone on without memory. -/
theorem Evo.draw {ρ1 : Rho} {σ σ1 : SW} {w w1 w2 : World} (h : Evo G ρ σ w ρ1 σ1 w1) (ho : w2.os = w1.os) (ht : w2.tape = w1.tape) (hu : w2.output = w1.output) (hh : w2.heap = w1.heap) : Evo G ρ σ w ρ1 σ1 w2 :=
  ⟨h.ext, h.only, h.next, h.lv, h.nw, ⟨fun i o hg => by rw [hh]; exact h.rel.live i o hg, h.rel.inj, h.rel.glob, h.rel.gn⟩,
    ⟨ho.trans h.keep.os, ht.trans h.keep.tape, hu.trans h.keep.output, by rw [hh]; exact h.keep.size, fun b hb hn => by rw [hh]; exact h.keep.block b hb hn⟩⟩

def upd (ρ : Rho) (i : Nat) (x : Nat × Nat) : Rho := fun j => if j = i then some x else ρ j
theorem upd_same (ρ : Rho) (i : Nat) (x : Nat × Nat) : upd ρ i x i = some x := by simp [upd]
theorem upd_other {ρ : Rho} {i j : Nat} {x : Nat × Nat} (h : j ≠ i) : upd ρ i x j = ρ j := by simp [upd, h]
theorem upd_ext {ρ : Rho} {i : Nat} {x : Nat × Nat} (h : ρ i = none) : Ext ρ (upd ρ i x) := fun j y hy => by
  by_cases e : j = i
  · subst e; rw [h] at hy; cases hy
  · rw [upd_other e]; exact hy

def SW.push (σ : SW) (o : SObj) : SW := { heap := σ.heap.put σ.next (some o), next := σ.next + 1 }

theorem Rel.get_lt {σ : SW} {w : World} (h : Rel G ρ σ w) {i : Nat} {o : SObj} (hg : σ.heap.get i = some o) : i < σ.next := (h.live i o hg).1

theorem heap_lt {w : World} {b : Nat} {o : Obj} (h : w.heap[b]? = some o) : b < w.heap.size := (Array.getElem?_eq_some_iff.1 h).1

/-- A new block. -/
theorem evo_push {σ : SW} {w w' : World} (h : Rel G ρ σ w) (hf : ρ σ.next = none) {ob : SObj} {ob' : Obj} {cap : Nat}
    (ho : ObjR (upd ρ σ.next (w.heap.size, cap)) cap ob ob') (hos : w'.os = w.os) (htp : w'.tape = w.tape) (hout : w'.output = w.output) (hh : w'.heap = w.heap.push ob') :
    Evo G ρ σ w (upd ρ σ.next (w.heap.size, cap)) (σ.push ob) w' := by
  have hx : Ext ρ (upd ρ σ.next (w.heap.size, cap)) := upd_ext hf
  have hold : ∀ b, b < w.heap.size → w'.heap[b]? = w.heap[b]? := fun b hb => by rw [hh, Array.getElem?_push, if_neg (by omega)]
  refine ⟨hx, fun i hi => ?_, Nat.le_succ _, fun i o hg hn => ?_, fun i o b c hg hn hρ => ?_, ⟨fun i o hg => ?_, fun i j o p b c d hi hj hρi hρj => ?_, fun g hg => ?_, Nat.le_trans h.gn (Nat.le_succ _)⟩, ⟨hos, htp, hout, by rw [hh]; simp, fun b hb _ => hold b hb⟩⟩
  · refine upd_other fun e => ?_
    subst e
    rcases hi with hi | hi
    · omega
    · simp [SW.push] at hi; omega
  · simp only [SW.push, Tr.get_put] at hg
    rw [if_neg (by omega)] at hg
    exact ⟨o, hg⟩
  · simp only [SW.push, Tr.get_put] at hg
    by_cases e : σ.next = i
    · subst e
      rw [upd_same] at hρ
      cases hρ
      exact .inl (Nat.le_refl _)
    · rw [if_neg e] at hg
      have := h.get_lt hg
      omega
  · simp only [SW.push, Tr.get_put] at hg ⊢
    by_cases e : σ.next = i
    · subst e
      rw [if_pos rfl] at hg
      cases hg
      exact ⟨by omega, w.heap.size, cap, ob', upd_same _ _ _, by rw [hh]; simp, ho⟩
    · rw [if_neg e] at hg
      obtain ⟨h1, b, c, o', h2, h3, h4⟩ := h.live i o hg
      exact ⟨by omega, b, c, o', by rw [upd_other (Ne.symm e)]; exact h2, by rw [hold b (heap_lt h3)]; exact h3, h4.mono hx⟩
  · simp only [SW.push, Tr.get_put] at hi hj
    by_cases e : σ.next = i
    · subst e
      by_cases e' : σ.next = j
      · exact e'
      · rw [if_neg e'] at hj
        rw [upd_same] at hρi
        rw [upd_other (Ne.symm e')] at hρj
        obtain ⟨_, b2, c2, o2, h2, h3, _⟩ := h.live j p hj
        rw [hρj] at h2
        cases h2; cases hρi
        have := heap_lt h3
        omega
    · rw [if_neg e] at hi
      rw [upd_other (Ne.symm e)] at hρi
      by_cases e' : σ.next = j
      · subst e'
        rw [upd_same] at hρj
        obtain ⟨_, b2, c2, o2, h2, h3, _⟩ := h.live i o hi
        rw [hρi] at h2
        cases h2; cases hρj
        have := heap_lt h3
        omega
      · rw [if_neg e'] at hj
        rw [upd_other (Ne.symm e')] at hρj
        exact h.inj i j o p b c d hi hj hρi hρj
  · obtain ⟨c, hc⟩ := h.glob g hg
    exact ⟨c, hx g _ hc⟩

/-- One block, changed. -/
theorem evo_set {σ : SW} {w w' : World} (h : Rel G ρ σ w) {i b c : Nat} {o ob : SObj} {ob' : Obj} (hG : G ≤ i) (hg : σ.heap.get i = some o) (hρ : ρ i = some (b, c)) (ho : ObjR ρ c ob ob')
    (hos : w'.os = w.os) (htp : w'.tape = w.tape) (hout : w'.output = w.output) (hsz : w'.heap.size = w.heap.size) (hb : w'.heap[b]? = some ob') (hoth : ∀ k, k ≠ b → w'.heap[k]? = w.heap[k]?) :
    Evo G ρ σ w ρ { σ with heap := σ.heap.put i (some ob) } w' := by
  have hlt := h.get_lt hg
  refine ⟨Ext.refl ρ, fun _ _ => rfl, Nat.le_refl _, fun j p hj hn => ?_, fun j p b' c' hj hn _ => ?_, ⟨fun j p hj => ?_, fun j k p q b1 c1 d1 hj hk hρj hρk => ?_, h.glob, h.gn⟩, ⟨hos, htp, hout, by omega, fun k hk hn => hoth k fun e => ?_⟩⟩
  · simp only [Tr.get_put] at hj
    by_cases e : i = j
    · subst e; exact ⟨o, hg⟩
    · rw [if_neg e] at hj; exact ⟨p, hj⟩
  · simp only [Tr.get_put] at hj
    by_cases e : i = j
    · omega
    · rw [if_neg e] at hj; have := h.get_lt hj; omega
  · simp only [Tr.get_put] at hj
    by_cases e : i = j
    · subst e
      rw [if_pos rfl] at hj
      cases hj
      exact ⟨hlt, b, c, ob', hρ, hb, ho⟩
    · rw [if_neg e] at hj
      obtain ⟨h1, b2, c2, o2, h2, h3, h4⟩ := h.live j p hj
      refine ⟨h1, b2, c2, o2, h2, ?_, h4⟩
      rw [hoth b2 (fun eb => e (h.inj i j o p b c c2 hg hj hρ (by rw [h2, eb])))]
      exact h3
  · have key : ∀ j p, (σ.heap.put i (some ob)).get j = some p → ∃ q, σ.heap.get j = some q := fun j p hj => by
      rw [Tr.get_put] at hj
      by_cases e : i = j
      · subst e; exact ⟨o, hg⟩
      · rw [if_neg e] at hj; exact ⟨p, hj⟩
    obtain ⟨p', hj'⟩ := key j p hj
    obtain ⟨q', hk'⟩ := key k q hk
    exact h.inj j k p' q' b1 c1 d1 hj' hk' hρj hρk
  · subst e; exact hn i o c hG hg hρ

/-- A block more that no shadow block stands for. -/
theorem Rel.world {σ : SW} {w w' : World} (h : Rel G ρ σ w) (hw : ∀ i o b c, σ.heap.get i = some o → ρ i = some (b, c) → w'.heap[b]? = w.heap[b]?) : Rel G ρ σ w' :=
  ⟨fun i o hg => let ⟨a, b, c, o', p, q, r⟩ := h.live i o hg; ⟨a, b, c, o', p, (hw i o b c hg p).trans q, r⟩, h.inj, h.glob, h.gn⟩

/-! ### What lays a block -/
theorem allocOp_sound {e : Env} {f : Operand → Value} (he : EnvR ρ e f) {o : Oper} {ob : SObj} {mk : Nat → Value} (h : allocOp P e o = some (ob, mk)) :
    ∃ (ob' : Obj) (mk' : Nat → Value), (∀ ρ', Ext ρ ρ' → ObjR ρ' 0 ob ob') ∧ (∀ w, (execOp f o).run P w = .ok (.value (mk' w.heap.size)) (w.alloc ob')) ∧ ∀ (ρ' : Rho) i b, ρ' i = some (b, 0) → VR ρ' (mk i) (mk' b) := by
  obtain ⟨dst, op, ty, pos, after, guard⟩ := o
  cases op <;> try (simp [allocOp] at h; done)
  case alloc t =>
    simp only [allocOp, Option.map_eq_some_iff] at h
    obtain ⟨z, hz, h⟩ := h
    cases h
    obtain ⟨i, zv, hi, hzv, hc, _, hR⟩ := zeroC_some (ρ := ρ) hz
    refine ⟨.cells ⟨z⟩ t, fun b => .pointer (some ⟨b, 0, none⟩), fun ρ' hx => ⟨rfl, .inl rfl, hR.mono hx⟩, fun w => run_v ?_, fun ρ' i b hb => .ptr i 0 b 0 hb⟩
    obtain ⟨zv', hrun, hc'⟩ := run_zeroC hz w
    simp only [Instr.alloc, Sem.run_bind, hrun, Result.andThen_ok, newVar, newRow, run_newObj, Sem.run_pure, hc']
    rfl
  case box t x =>
    simp only [allocOp, Option.map_eq_some_iff] at h
    obtain ⟨v, hv, h⟩ := h
    cases h
    refine ⟨.cells (f x).cells t, fun b => .pointer (some ⟨b, 0, none⟩), fun ρ' hx => ⟨rfl, .inl rfl, (he x v hv).cells.mono hx⟩, fun w => run_v ?_, fun ρ' i b hb => .ptr i 0 b 0 hb⟩
    simp only [Instr.box, Sem.run_bind, newVar, newRow, run_newObj, Result.andThen_ok, Sem.run_pure]
    rfl
  case makeMap t r =>
    simp only [allocOp] at h
    split at h
    · cases h
      refine ⟨.map #[] 0, fun b => .map (some b), fun ρ' hx => ⟨rfl, rfl, fun j x e a => by simp at a⟩, fun w => run_v ?_, fun ρ' i b hb => .map i b 0 hb⟩
      simp only [Instr.makeMap, Option.map_none, Sem.run_bind, run_newObj, Result.andThen_ok, Sem.run_pure]
      rfl
    · rename_i x
      split at h
      · rename_i k n kt el hx hu
        cases h
        refine ⟨.map #[] 0, fun b => .map (some b), fun ρ' hx => ⟨rfl, rfl, fun j x e a => by simp at a⟩, fun w => run_v ?_, fun ρ' i b hb => .map i b 0 hb⟩
        have hx' := (he x _ hx).int_inv
        simp only [Instr.makeMap, Option.map_some, hx', Sem.run_bind, run_underlying (und_some hu), Result.andThen_ok, asInt, asIntOf, Sem.run_pure, run_newObj]
        rfl
      · cases h
  case buildSlice t len parts =>
    simp only [allocOp] at h
    split at h
    · rename_i el hu
      split at h
      · rename_i z ei l hz hei hl
        obtain ⟨hb, h⟩ := cond_some h
        simp only [Option.map_eq_some_iff] at h
        obtain ⟨c, hc, h⟩ := h
        cases h
        simp only [Bool.and_eq_true] at hb
        have hle := Nat.le_of_ble_eq_true hb.1
        have hlt := blt_lt hb.2
        obtain ⟨i, zv, hi, hzv, hcz, hzl, hR⟩ := zeroC_some (ρ := ρ) hz
        have hii : i = ei := by rw [inf_some hei] at hi; cases hi; rfl
        subst hii
        have hz0 : LR ρ ((List.range (len * i.size)).map fun k => z.getD (k % z.length) undef) ((List.range (len * i.size)).map fun k => z.getD (k % z.length) undef) := by
          refine ⟨rfl, fun j v v' hv hv' => ?_⟩
          rw [hv] at hv'; cases hv'
          simp only [List.getElem?_map, Option.map_eq_some_iff] at hv
          obtain ⟨k, hk, rfl⟩ := hv
          have hkl : k < len * i.size := by
            rw [List.getElem?_eq_some_iff] at hk
            obtain ⟨hj, he⟩ := hk
            simp at hj he; omega
          have hzp : 0 < z.length := by
            rw [hzl]
            rcases Nat.eq_zero_or_pos i.size with h0 | h0
            · rw [h0] at hkl; simp at hkl
            · exact h0
          have hm := Nat.mod_lt k hzp
          have : z[k % z.length]? = some (z.getD (k % z.length) undef) := by simp [List.getD, hm]
          exact hR.at_ _ _ _ this this
        obtain ⟨c', hc', hcR⟩ := fillS_R (evParts_R he hl) hz0 hc
        refine ⟨.cells ⟨c'⟩ el, fun b => .slice (some ⟨b, 0, none⟩) len len, fun ρ' hx => ⟨rfl, .inl rfl, hcR.mono hx⟩, fun w => run_v ?_, fun ρ' i b hb => .sl i 0 len len b 0 hb (by have := capy_lt; omega)⟩
        have hfill : Instr.fill (fun k => some (k * i.size, i.size)) ((Array.range (len * i.size)).map fun k => zv.cells[k % zv.cells.size]!) (parts.toList.map fun x => (x.1, f x.2)) = some ⟨c'⟩ := by
          rw [← hc']
          congr 1
          apply Array.ext'
          simp only [Array.toList_map, Array.toList_range, hcz]
          apply List.map_congr_left
          intro k hk
          simp only [List.size_toArray, List.getElem!_toArray]
          have hkl : k < len * i.size := by simpa using hk
          have hzp : 0 < z.length := by
            rw [hzl]
            rcases Nat.eq_zero_or_pos i.size with h0 | h0
            · rw [h0] at hkl; simp at hkl
            · exact h0
          have hm := Nat.mod_lt k hzp
          simp [List.getD, getElem!_def, List.getElem?_eq_getElem hm]
        have hnle : ¬ (len * i.size > 2 ^ 24) := by omega
        simp only [Instr.buildSlice, Sem.run_bind, run_underlying (und_some hu), Result.andThen_ok, run_sizeOf' hei, hnle, if_false]
        by_cases h0 : len * i.size = 0
        · simp only [h0, if_true, Sem.run_bind, Sem.run_pure, Result.andThen_ok]
          rw [h0] at hfill
          simp only [map_mk]
          have : Instr.fill (fun k => some (k * i.size, i.size)) ((Array.range 0).map fun k => (#[] : Array Value)[k % (#[] : Array Value).size]!) (parts.toList.map fun x => (x.1, f x.2)) = some ⟨c'⟩ := by
            rw [← hfill]; congr 1; apply Array.ext'; simp
          simp only [map_mk] at this
          rw [this]
          rfl
        · have hzr : (zeroValue el).run P w = .ok zv w := by simp only [zeroValue, Sem.run_bind, run_typeInfo' hei, Result.andThen_ok, hzv, Sem.run_pure]
          simp only [h0, if_false, Sem.run_bind, hzr, Sem.run_pure, Result.andThen_ok]
          simp only [map_mk] at hfill ⊢
          rw [hfill]
          rfl
      · cases h
    · cases h

end Go.Sh
