/- Shadow evaluation, 10: what reads memory is right. -/
import Derived.Test.YtjipcihcldngbaaGreatDoorShI
namespace Go.Sh
variable {P : Program} {ρ : Rho}

theorem prun_bind {α β : Type} (s : Sem α) (f : α → Sem β) : prun P (s.bind f) = match prun P s with | .ok a => prun P (f a) | .pan v => .pan v | .no => .no := by
  induction s with
  | pure a => simp [Sem.bind, prun]
  | program k ih => simp only [Sem.bind, prun]; exact ih P
  | mark m k ih => simp only [Sem.bind, prun]; exact ih
  | halt x => cases x <;> rfl
  | _ => simp [Sem.bind, prun]
theorem prun_bind' {α β : Type} (s : Sem α) (f : α → Sem β) : prun P (s >>= f) = match prun P s with | .ok a => prun P (f a) | .pan v => .pan v | .no => .no := prun_bind s f

theorem cells_live {G : Nat} {σ : SW} {w : World} (hr : Rel G ρ σ w) {i : Nat} {c : List Value} (h : cellsS σ i = some c) :
    ∃ b cc c' e, ρ i = some (b, cc) ∧ (∃ fr, NoFr fr c'.size ∧ w.heap[b]? = some (.cells c' e fr)) ∧ LR ρ c (c'.toList.take c.length) ∧ c.length ≤ c'.size := by
  unfold cellsS at h
  split at h
  · rename_i c0 e hg
    cases h
    obtain ⟨_, b, cc, o', hρ, hw, ho⟩ := hr.live _ _ hg
    cases o' <;> simp only [ObjR] at ho
    obtain ⟨rfl, hfr, hl⟩ := ho
    have := hl.len
    exact ⟨b, cc, _, _, hρ, ⟨_, hfr, hw⟩, by rw [List.take_of_length_le (by omega)]; exact hl, by simp at this; omega⟩
  · rename_i c0 e s hg
    cases h
    obtain ⟨_, b, cc, o', hρ, hw, ho⟩ := hr.live _ _ hg
    cases o' <;> simp only [ObjR] at ho
    obtain ⟨rfl, hfr, _, hle, hl⟩ := ho
    exact ⟨b, cc, _, _, hρ, ⟨_, hfr, hw⟩, hl, hle⟩
  · cases h

theorem cell_at {w : World} {b : Nat} {c : Array Value} {e : TypeId} {fr : Nat × Nat} (h : w.heap[b]? = some (.cells c e fr)) (off : Nat) : w.cell? ⟨b, off, none⟩ = c[off]? := by
  unfold World.cell?; rw [h]; simp

theorem load_sound {t : TypeId} {c : List Value} {c' : Array Value} {off b : Nat} {e : TypeId} {fr : Nat × Nat} {v : Value} {w : World} (hc : LR ρ c (c'.toList.take c.length)) (hw : w.heap[b]? = some (.cells c' e fr))
    (h : valAt P t c off = some v) : ∃ v', VR ρ v v' ∧ (Instr.loadAt t (.pointer (some ⟨b, off, none⟩))).run P w = .ok v' w := by
  obtain ⟨v', hr, ⟨i, l, hi, rfl, hl, hlen, hd⟩ | ⟨hv, d, hd, h1, h2⟩⟩ := valAt_R hc h
  · refine ⟨_, hr, ?_⟩
    have hcell : ∀ j v, l[j]? = some v → w.cell? ((⟨b, off, none⟩ : Addr).add j) = some v := by
      intro j v hv
      rw [Addr.add_plain, cell_at hw]
      rw [hl, List.getElem?_take] at hv
      split at hv
      · rw [List.getElem?_drop, List.getElem?_take] at hv
        split at hv
        · simpa using hv
        · cases hv
      · cases hv
    have hrun := run_loadCells_list (P := P) w ⟨b, off, none⟩ l hcell
    rw [hlen] at hrun
    rcases hd with ⟨fs, hd⟩ | ⟨n, el, hd⟩ <;>
      (simp only [Instr.loadAt, Instr.sureAddr, loadVar, isAgg, Sem.run_bind, Sem.run_pure, run_underlying hd, Result.andThen_ok, if_true, sizeOf, typeInfo, run_program, hi, hrun])
  · refine ⟨_, hr, ?_⟩
    have hv' : w.cell? ⟨b, off, none⟩ = some v' := by
      rw [cell_at hw]
      rw [List.getElem?_take] at hv
      split at hv
      · simpa using hv
      · cases hv
    have hna : (isAgg t).run P w = .ok false w := by
      simp only [isAgg, Sem.run_bind, run_underlying hd, Result.andThen_ok]
      cases d <;> first | rfl | exact absurd rfl (h1 _) | exact absurd rfl (h2 _ _)
    simp only [Instr.loadAt, Instr.sureAddr, loadVar, Sem.run_bind, Sem.run_pure, hna, Result.andThen_ok, Bool.false_eq_true, if_false, run_load, hv']

/-! ### Keys -/
def KeysAre (es : List (Value × Value × Nat)) (es' : List MapEntry) : Prop := es.length = es'.length ∧ ∀ (j : Nat) x e, es[j]? = some x → es'[j]? = some e → e.key = x.1
def dummy (x : Value × Value × Nat) : MapEntry := { key := x.1, val := .nilFunc, born := 0 }

theorem KeysAre.cons_inv {x : Value × Value × Nat} {r : List (Value × Value × Nat)} {es' : List MapEntry} (h : KeysAre (x :: r) es') : ∃ e r', es' = e :: r' ∧ e.key = x.1 ∧ KeysAre r r' := by
  cases es' with
  | nil => have := h.1; simp at this
  | cons e r' => exact ⟨e, r', rfl, h.2 0 x e rfl rfl, by simpa using h.1, fun j a b ha hb => h.2 (j + 1) a b (by simpa using ha) (by simpa using hb)⟩

def fixV (es' : List MapEntry) (i : Nat) : Option (Nat × Value) → Option (Nat × Value)
  | none => none
  | some (j, _) => some (j, ((es'[j - i]?).map (·.val)).getD .nilFunc)

theorem findNow_R (d : TypeDesc) (k : Value) : ∀ {es : List (Value × Value × Nat)} {es' : List MapEntry} (i : Nat), KeysAre es es' →
    Instr.findNow d k es' i = (Instr.findNow d k (es.map dummy) i).map (fixV es' i) ∧ (∀ j v, Instr.findNow d k (es.map dummy) i = some (some (j, v)) → i ≤ j ∧ j < i + es.length)
  | [], es', i, h => by
    have : es' = [] := by have := h.1; exact List.length_eq_zero_iff.1 (by simpa using this.symm)
    subst this
    exact ⟨rfl, fun j v h => by simp [Instr.findNow] at h⟩
  | x :: r, es', i, h => by
    obtain ⟨e, r', rfl, hk, hr⟩ := h.cons_inv
    obtain ⟨ih, ihl⟩ := findNow_R d k (i + 1) hr
    simp only [List.map_cons, Instr.findNow]
    rw [hk]
    have hx : (dummy x).key = x.1 := rfl
    rw [hx]
    cases Instr.sameNow d k x.1 with
    | none => exact ⟨rfl, fun j v h => by simp at h⟩
    | some bb =>
      cases bb with
      | true =>
        refine ⟨by simp [fixV], fun j v h => ?_⟩
        simp at h; obtain ⟨rfl, _⟩ := h; simp
      | false =>
        refine ⟨?_, fun j v h => ?_⟩
        · simp only
          rw [ih]
          cases hf : Instr.findNow d k (r.map dummy) (i + 1) with
          | none => rfl
          | some o => cases o with
            | none => rfl
            | some jv =>
              obtain ⟨j, v⟩ := jv
              have := ihl j v hf
              simp only [Option.map_some, fixV]
              rw [show j - i = (j - (i + 1)) + 1 by omega, List.getElem?_cons_succ]
        · have := ihl j v h
          simp only [List.length_cons]; omega

theorem findAsking_R {kt : TypeId} {k : Value} : ∀ {es : List (Value × Value × Nat)} {es' : List MapEntry} (i : Nat) {r : Option (Nat × Value)}, KeysAre es es' →
    prun P (Instr.findAsking kt k (es.map dummy) i) = .ok r → (∀ w, (Instr.findAsking kt k es' i).run P w = .ok (fixV es' i r) w) ∧ (∀ j v, r = some (j, v) → i ≤ j ∧ j < i + es.length)
  | [], es', i, r, h, hp => by
    have : es' = [] := by have := h.1; exact List.length_eq_zero_iff.1 (by simpa using this.symm)
    subst this
    simp only [List.map_nil, Instr.findAsking] at hp ⊢
    cases hp
    exact ⟨fun w => rfl, fun j v h => by cases h⟩
  | x :: l, es', i, r, h, hp => by
    obtain ⟨e, r', rfl, hk, hr⟩ := h.cons_inv
    simp only [List.map_cons, Instr.findAsking, prun_bind'] at hp
    have hx : (dummy x).key = x.1 := rfl
    rw [hx] at hp
    split at hp
    · rename_i bb hb
      have hrun := fun w => prun_ok hb w
      cases bb with
      | true =>
        simp only [if_true] at hp
        cases hp
        refine ⟨fun w => ?_, fun j v h => ?_⟩
        · simp only [Instr.findAsking, Sem.run_bind, hk, hrun, Result.andThen_ok, if_true, Sem.run_pure]
          simp [fixV]
        · cases h; simp
      | false =>
        simp only [Bool.false_eq_true, if_false] at hp
        obtain ⟨ih, ihl⟩ := findAsking_R (i + 1) hr hp
        refine ⟨fun w => ?_, fun j v h => ?_⟩
        · simp only [Instr.findAsking, Sem.run_bind, hk, hrun, Result.andThen_ok, Bool.false_eq_true, if_false, ih]
          cases r with
          | none => rfl
          | some jv =>
            obtain ⟨j, v⟩ := jv
            have := ihl j v rfl
            simp only [fixV]
            rw [show j - i = (j - (i + 1)) + 1 by omega, List.getElem?_cons_succ]
        · have := ihl j v h
          simp only [List.length_cons]; omega
    · cases hp
    · cases hp

theorem findKey_R {kt : TypeId} {k : Value} {es : List (Value × Value × Nat)} {es' : List MapEntry} {r : Option (Nat × Value)} (hk : KeysAre es es')
    (hp : prun P (Instr.findKey kt k (es.map dummy)) = .ok r) : (∀ w, (Instr.findKey kt k es').run P w = .ok (fixV es' 0 r) w) ∧ (∀ j v, r = some (j, v) → j < es.length) := by
  simp only [Instr.findKey, prun_bind'] at hp
  split at hp
  · rename_i d hd
    have hrun := fun w => prun_ok hd w
    obtain ⟨hn, hnl⟩ := findNow_R d k 0 hk
    cases hf : Instr.findNow d k (es.map dummy) 0 with
    | none =>
      rw [hf] at hp hn
      obtain ⟨h1, h2⟩ := findAsking_R 0 hk hp
      refine ⟨fun w => ?_, fun j v h => by have := h2 j v h; omega⟩
      simp only [Instr.findKey, Sem.run_bind, hrun, Result.andThen_ok, hn, Option.map_none, h1]
    | some o =>
      rw [hf] at hp hn
      simp only at hp
      cases hp
      refine ⟨fun w => ?_, fun j v h => by have := hnl j v (by rw [hf, h]); omega⟩
      simp only [Instr.findKey, Sem.run_bind, hrun, Result.andThen_ok, hn, Option.map_some]
      rfl
  · cases hp
  · cases hp

theorem findS_sound {kt : TypeId} {k : Value} {es : List (Value × Value × Nat)} {es' : List MapEntry} {r : Option (Nat × Value)} (hk : KeysAre es es') (h : findS P kt k es = some r) :
    match r with
    | none => ∀ w, (Instr.findKey kt k es').run P w = .ok none w
    | some (i, v) => ∃ x e, es[i]? = some x ∧ x.2.1 = v ∧ es'[i]? = some e ∧ ∀ w, (Instr.findKey kt k es').run P w = .ok (some (i, e.val)) w := by
  unfold findS at h
  split at h
  · rename_i hp
    cases h
    exact (findKey_R hk hp).1
  · rename_i i u hp
    split at h
    · rename_i x hx
      cases h
      obtain ⟨h1, h2⟩ := findKey_R hk hp
      have hlt : i < es'.length := by have := h2 i u rfl; rw [← hk.1]; exact this
      refine ⟨x, es'[i], hx, rfl, by simp [hlt], fun w => ?_⟩
      rw [h1]
      simp [fixV, hlt]
    · cases h
  · cases h

theorem keysAre_of {es : List (Value × Value × Nat)} {es' : Array MapEntry} (hl : es.length = es'.size) (h : ∀ (j : Nat) x e, es[j]? = some x → es'[j]? = some e → EntR ρ x e) : KeysAre es es'.toList :=
  ⟨by simpa using hl, fun j x e a b => (h j x e a (by simpa using b)).2.1⟩

theorem run_getObj_map {w : World} {b : Nat} {es : Array MapEntry} {clock : Nat} (h : w.heap[b]? = some (.map es clock)) : (getObj b).run P w = .ok (.map es clock) w := by
  simp only [getObj, Sem.run, h]

theorem lookupS_sound {t : TypeId} {es : List (Value × Value × Nat)} {es' : Array MapEntry} {k v : Value} {ok : Bool} (hl : es.length = es'.size) (hE : ∀ (j : Nat) x e, es[j]? = some x → es'[j]? = some e → EntR ρ x e)
    (h : lookupS P t es k ok = some v) {x : Value} {w : World} (hx : (x = .map none ∧ es' = #[]) ∨ ∃ b clock, x = .map (some b) ∧ w.heap[b]? = some (.map es' clock)) :
    ∃ v', VR ρ v v' ∧ (Instr.lookup t x k ok).run P w = .ok v' w := by
  have hemp : es'.isEmpty = es.isEmpty := by
    cases es with
    | nil => simp at hl; simp [Array.isEmpty, ← hl]
    | cons => simp at hl; simp [Array.isEmpty, ← hl]
  unfold lookupS at h
  split at h
  · rename_i kt el hu
    split at h
    · rename_i i hck hi
      have hck' := fun w => prun_ok hck w
      rw [← hemp] at hck'
      split at h
      · rename_i j v0 hf
        obtain ⟨x0, e, h1, h2, h3, h4⟩ := findS_sound (keysAre_of hl hE) hf
        have hv := (hE j x0 e h1 (by simpa using h3)).2.2.1
        rw [h2] at hv
        cases h
        refine ⟨bif ok then .tuple #[e.val, .bool true] else e.val, ?_, ?_⟩
        · cases ok
          · exact hv
          · exact VR.of_tuple (LR.cons hv (LR.cons (.bool true) (LR.nil ρ)))
        · rcases hx with ⟨rfl, rfl⟩ | ⟨b, clock, rfl, hb⟩
          · simp only [Instr.lookup, Sem.run_bind, run_underlying (und_some hu), Result.andThen_ok, Sem.run_pure, hck', h4]
            cases ok <;> rfl
          · simp only [Instr.lookup, Sem.run_bind, run_underlying (und_some hu), Result.andThen_ok, Sem.run_pure, run_getObj_map hb, hck', h4]
            cases ok <;> rfl
      · rename_i hf
        have h4 := findS_sound (keysAre_of hl hE) hf
        split at h
        · rename_i z hz
          obtain ⟨hp, h⟩ := cond_some h
          cases h
          refine ⟨bif ok then .tuple #[z, .bool false] else z, ?_, ?_⟩
          · cases ok
            · exact plain_refl ρ hp
            · exact VR.of_tuple (LR.cons (plain_refl ρ hp) (LR.cons (.bool false) (LR.nil ρ)))
          · have hzr : (zeroValue el).run P w = .ok z w := by simp only [zeroValue, Sem.run_bind, run_typeInfo' hi, Result.andThen_ok, hz, Sem.run_pure]
            rcases hx with ⟨rfl, rfl⟩ | ⟨b, clock, rfl, hb⟩
            · simp only [Instr.lookup, Sem.run_bind, run_underlying (und_some hu), Result.andThen_ok, Sem.run_pure, hck', h4, hzr]
              cases ok <;> rfl
            · simp only [Instr.lookup, Sem.run_bind, run_underlying (und_some hu), Result.andThen_ok, Sem.run_pure, run_getObj_map hb, hck', h4, hzr]
              cases ok <;> rfl
        · cases h
      · cases h
    · cases h
  · cases h

def HasR (P : Program) (ρ : Rho) (f : Operand → Value) (o : Oper) (v : Value) (w : World) : Prop := ∃ v', VR ρ v v' ∧ (execOp f o).run P w = .ok (.value v') w
theorem HasV.at_ {f : Operand → Value} {o : Oper} {v : Value} (h : HasV P ρ f o v) (w : World) : HasR P ρ f o v w := let ⟨v', a, b⟩ := h; ⟨v', a, b w⟩

theorem strOf_sound : ∀ {l : List Value} {r : List UInt8}, strOf l = some r → l = r.map fun u => Value.int .u8 u.toNat := by
  intro l
  induction l with
  | nil => intro r h; simp only [strOf, Option.some.injEq] at h; subst h; rfl
  | cons v l ih =>
    intro r h
    cases v with
    | int k z =>
      cases k <;> simp only [strOf] at h <;> try cases h
      obtain ⟨hb, h⟩ := cond_some h
      simp only [Bool.and_eq_true, decide_eq_true_eq] at hb
      have h2 := Nat.le_of_ble_eq_true hb.2
      split at h
      · rename_i r0 hr
        cases h
        rw [ih hr, List.map_cons]
        congr 2
        rw [UInt8.toNat_ofNat']
        omega
      · cases h
    | _ => simp only [strOf] at h; cases h
theorem LR.ints {l' : List Value} {r : List UInt8} (h : LR ρ (r.map fun u => Value.int .u8 u.toNat) l') : l' = r.map fun u => Value.int .u8 u.toNat := by
  apply List.ext_getElem?
  intro j
  by_cases hj : j < r.length
  · have hj' : j < l'.length := by have := h.len; simp at this; omega
    have := h.at_ j (.int .u8 r[j].toNat) l'[j] (by simp [hj]) (by simp [hj'])
    cases hv : l'[j] with
    | int k z => rw [hv] at this; cases this; simp [hj, hj', hv]
    | _ => rw [hv] at this; cases this
  · have hj' : ¬ j < l'.length := by have := h.len; simp at this; omega
    rw [List.getElem?_eq_none (by omega), List.getElem?_eq_none (by simp; omega)]

theorem readOp_sound {G : Nat} {e : Env} {f : Operand → Value} (he : EnvR ρ e f) {σ : SW} {w : World} (hr : Rel G ρ σ w) {o : Oper} {v : Value} (h : readOp P e o σ = some v) : HasR P ρ f o v w := by
  obtain ⟨dst, op, ty, pos, after, guard⟩ := o
  cases op <;> try (simp only [readOp] at h; exact (pureOp_sound he h).at_ w)
  case load t x =>
    simp only [readOp] at h
    split at h
    · rename_i i off hx
      split at h
      · rename_i c hc
        obtain ⟨b, cc, c', el, hρ, ⟨_, _, hw⟩, hL, _⟩ := cells_live hr hc
        obtain ⟨b', cc', hρ', hx'⟩ := (he x _ hx).ptr_inv
        rw [hρ] at hρ'; cases hρ'
        obtain ⟨v', hv', hrun⟩ := load_sound hL hw h
        exact ⟨v', hv', run_v (by rw [hx']; exact hrun)⟩
      · cases h
    · cases h
  case lookup t x k ok =>
    simp only [readOp] at h
    split at h
    · rename_i kv hx hk
      obtain ⟨hp, h⟩ := cond_some h
      have hk' := plain_eq hp (he k _ hk)
      have hx' : f x = .map none := by
        have := he x _ hx
        generalize f x = y at this
        cases this; rfl
      obtain ⟨v', hv', hrun⟩ := lookupS_sound (ρ := ρ) (es' := #[]) rfl (fun j x e a => by simp at a) h (x := .map none) (w := w) (.inl ⟨rfl, rfl⟩)
      exact ⟨v', hv', run_v (by rw [hx', hk']; exact hrun)⟩
    · rename_i i kv hx hk
      split at h
      · rename_i es clock hg
        obtain ⟨hp, h⟩ := cond_some h
        have hk' := plain_eq hp (he k _ hk)
        obtain ⟨_, b, cc, o', hρ, hw, ho⟩ := hr.live _ _ hg
        cases o' <;> simp only [ObjR] at ho
        obtain ⟨rfl, hl, hE⟩ := ho
        have hx' : ∃ b' c', ρ i = some (b', c') ∧ f x = .map (some b') := by
          have := he x _ hx
          generalize f x = y at this
          cases this with | map _ b' c' h => exact ⟨b', c', h, rfl⟩
        obtain ⟨b', c', h1, hx'⟩ := hx'
        rw [hρ] at h1; cases h1
        obtain ⟨v', hv', hrun⟩ := lookupS_sound (ρ := ρ) hl hE h (x := .map (some b)) (w := w) (.inr ⟨b, _, rfl, hw⟩)
        exact ⟨v', hv', run_v (by rw [hx', hk']; exact hrun)⟩
      · cases h
    · cases h
  case convert src dst x =>
    simp only [readOp] at h
    split at h
    · rename_i i off n c el hx hs hd
      unfold bytesS at h
      split at h
      · rename_i ei cs hel hei hcs
        obtain ⟨hb, h⟩ := cond_some h
        simp only [Bool.and_eq_true] at hb
        have h2 := Nat.eq_of_beq_eq_true hb.2
        split at h
        · rename_i r hr0
          cases h
          have hl := strOf_sound hr0
          obtain ⟨b, cc, c', e0, hρ, ⟨_, _, hw⟩, hL, _⟩ := cells_live hr hcs
          obtain ⟨b', cc', c2, hρ', hx', _⟩ := (he x _ hx).slice_inv
          rw [hρ] at hρ'; cases hρ'
          have hn : n = r.length := by rw [← h2, hl, List.length_map]
          have hcell : ∀ j (hj : j < r.length), w.cell? ((⟨b, off, none⟩ : Addr).add j) = some (.int .u8 (r[j].toNat : Int)) := by
            intro j hj
            have hLd : LR ρ ((cs.drop off).take n) (((c'.toList.take cs.length).drop off).take n) := (hL.drop off).take n
            rw [hl] at hLd
            have hint := LR.ints hLd
            have hget : (((c'.toList.take cs.length).drop off).take n)[j]? = some (.int .u8 (r[j].toNat : Int)) := by rw [hint]; simp [hj]
            rw [List.getElem?_take, if_pos (by omega), List.getElem?_drop, List.getElem?_take] at hget
            split at hget
            · rw [Addr.add_plain, cell_at hw]; simpa using hget
            · cases hget
          subst hn
          exact ⟨.string ⟨⟨r⟩⟩, .string _, run_v (by rw [hx']; exact run_convert_bytes_back w src dst el ⟨b, off, none⟩ c2 r (und_some hs) (und_some hel) (und_some hd) hcell)⟩
        · cases h
      · cases h
    · exact (pureOp_sound he h).at_ w
  case entry x =>
    simp only [readOp] at h
    split at h
    · rename_i i hx
      split at h
      · rename_i m since seen st hg
        split at h
        · rename_i bn es clock hs hm
          obtain ⟨hq, h⟩ := cond_some h
          split at h
          · rename_i x0 hf
            cases h
            obtain ⟨b, cc, hρ, hx'⟩ := (he x _ hx).ptr_inv
            obtain ⟨_, b', cc', o', hρ', hw, ho⟩ := hr.live _ _ hg
            rw [hρ] at hρ'; cases hρ'
            cases o' <;> simp only [ObjR] at ho
            rename_i m' since' seen' st'
            obtain ⟨rfl, rfl, rfl, hm'⟩ := ho
            cases m' with
            | none => exact hm'.elim
            | some mb =>
              obtain ⟨c3, hρm⟩ := hm'
              obtain ⟨_, b3, c4, o3, hρ3, hw3, ho3⟩ := hr.live _ _ hm
              rw [hρm] at hρ3; cases hρ3
              cases o3 <;> simp only [ObjR] at ho3
              rename_i es' clock'
              obtain ⟨rfl, hl, hE⟩ := ho3
              have hcl := Nat.eq_of_beq_eq_true hq
              -- the entry
              have hfind : ∃ e, es'.find? (fun e => e.born == bn) = some e ∧ EntR ρ x0 e := by
                rw [List.find?_eq_some_iff_getElem] at hf
                obtain ⟨hb0, j, hj, hxj, hbef⟩ := hf
                have hj' : j < es'.size := by omega
                refine ⟨es'[j], ?_, hE j x0 _ (by rw [List.getElem?_eq_getElem hj, hxj]) (by simp [hj'])⟩
                rw [Array.find?_eq_some_iff_getElem]
                have hee := fun k (hk : k < es.length) => hE k es[k] es'[k] (by simp [hk]) (by simp [show k < es'.size by omega])
                refine ⟨?_, j, hj', rfl, fun k hk => ?_⟩
                · have := (hee j hj).2.2.2
                  rw [hxj] at this
                  rw [this]; exact (by simpa using Nat.eq_of_beq_eq_true hb0)
                · have h1 := hbef k hk
                  have := (hee k (by omega)).2.2.2
                  rw [this]
                  simp only [Bool.not_eq_true', beq_eq_false_iff_ne, ne_eq]
                  intro e0
                  rw [e0, Nat.beq_refl] at h1
                  simp at h1
              obtain ⟨e, hfe, hE0⟩ := hfind
              refine ⟨.tuple #[e.key, e.val], VR.of_tuple (LR.cons (by rw [hE0.2.1]; exact plain_refl ρ hE0.1) (LR.cons hE0.2.2.1 (LR.nil ρ))), run_v ?_⟩
              rw [hx']
              have hg1 : (getObj b).run P w = .ok (.mapIter (some mb) since' seen' st') w := by simp only [getObj, Sem.run, hw]
              have hback : seen'.back? = some bn := by rw [← Array.getLast?_toList]; exact hs
              simp only [Instr.entry, Sem.run_bind, hg1, Result.andThen_ok, hback, run_getObj_map hw3, hcl, bne_self_eq_false, Bool.false_eq_true, if_false, hfe, Sem.run_pure]
          · cases h
        · cases h
      · cases h
    · cases h
  case call c =>
    obtain ⟨callee, args, argTypes⟩ := c
    cases callee with
    | value g => simp only [readOp] at h; exact (pureOp_sound he h).at_ w
    | invoke r m => simp only [readOp] at h; exact (pureOp_sound he h).at_ w
    | builtin b =>
      cases b <;> simp only [readOp] at h <;> try exact (pureOp_sound he h).at_ w
      case len =>
        split at h
        · rename_i x t hargs htys
          obtain rfl : args = #[x] := by cases args; simp at hargs; simp [hargs]
          obtain rfl : argTypes = #[t] := by cases argTypes; simp at htys; simp [htys]
          split at h
          · rename_i a n c el hx hu
            cases h
            have := he x _ hx
            have hx' : ∃ a' c', f x = .slice (some a') n c' := by
              generalize f x = y at this
              cases this with
              | sl _ _ _ _ b _ _ _ => exact ⟨_, _, rfl⟩
              | slx _ _ b _ _ _ => exact ⟨_, _, rfl⟩
              | sly _ _ _ b _ _ _ _ => exact ⟨_, _, rfl⟩
            obtain ⟨a', c', hx'⟩ := hx'
            refine ⟨_, .int .i64 n, ?_⟩
            simp [execOp, resolve, invoke, builtin, Builtin.len_, run_underlying (und_some hu), hx', goInt]
          · rename_i i kt el hx hu
            split at h
            · rename_i es clock hg
              cases h
              obtain ⟨_, b, cc, o', hρ, hw, ho⟩ := hr.live _ _ hg
              cases o' <;> simp only [ObjR] at ho
              rename_i es' clock'
              obtain ⟨rfl, hl, hE⟩ := ho
              have hx' : ∃ b' c', ρ i = some (b', c') ∧ f x = .map (some b') := by
                have := he x _ hx
                generalize f x = y at this
                cases this with | map _ b' c' h => exact ⟨b', c', h, rfl⟩
              obtain ⟨b', c', h1, hx'⟩ := hx'
              rw [hρ] at h1; cases h1
              refine ⟨_, .int .i64 es.length, ?_⟩
              simp [execOp, resolve, invoke, builtin, Builtin.len_, run_underlying (und_some hu), hx', goInt, run_getObj_map hw, hl]
            · cases h
          · exact (HasV.plain he h).at_ w
          · cases h
        · cases h

end Go.Sh
