/- Shadow evaluation, 36: the sorted keys of a map, in whatever order they are met. -/
import Derived.Test.YtjipcihcldngbaaGreatDoorShAI
namespace Go.Sh
open Go.RowKit Go.Maps Go.WideElems
open Go.Proofs (encStr)
variable {P : Program} {ρ : Rho} {G : Nat}

def keysOf : List (Value × Value × Nat) → Option (List (List UInt8))
  | [] => some []
  | (.string s, _, _) :: l => match keysOf l with
    | some r => bif Nat.ble s.size 1000000 then some (s.data.toList :: r) else none
    | none => none
  | _ => none
def insK (x : List UInt8) : List (List UInt8) → List (List UInt8)
  | [] => [x]
  | y :: r => bif leB x y then x :: y :: r else y :: insK x r
def sortK : List (List UInt8) → List (List UInt8)
  | [] => []
  | x :: l => insK x (sortK l)
def pwK : List (List UInt8) → Bool
  | [] => true
  | x :: l => l.all (leB x) && pwK l
def apartN : List Nat → Bool
  | [] => true
  | x :: l => l.all (fun y => !(Nat.beq x y)) && apartN l
def apartK : List (List UInt8) → Bool
  | [] => true
  | x :: l => l.all (fun y => !(bytesBeq x y)) && apartK l
def sortedRow (t9 : TypeId) (σ : SW) : List (List UInt8) → Value × SW
  | [] => (.slice none 0 0, σ)
  | x :: l => (.slice (some ⟨σ.next, 0, none⟩) (l.length + 1) CAPX, { heap := σ.heap.put σ.next (some (.row ((x :: l).map encStr) t9 1)), next := σ.next + 1 })
def sortedFin (t9 : TypeId) (es : List (Value × Value × Nat)) (clock : Nat) (σ : SW) : Option (List (List UInt8)) → Option (Value × SW)
  | some ks => bif es.all (fun x => Nat.blt x.2.2 clock) && apartN (es.map (·.2.2)) && (apartK ks && pwK (sortK ks) && Nat.ble es.length 1000000) then some (sortedRow t9 σ (sortK ks)) else none
  | none => none
def sortedAt (t9 : TypeId) (σ : SW) (a b : List Value) : Option (Value × SW) :=
  match a, b with
  | [], [.pointer (some ⟨i, 0, none⟩)] => match cellsS σ i with
    | some (.map (some m) :: _) => match σ.heap.get m with
      | some (.map es clock) => sortedFin t9 es clock σ (keysOf es)
      | _ => none
    | _ => none
  | _, _ => none
def sortedArgs (gs : List Nat) (t9 : TypeId) (σ : SW) : List Value → Option (Value × SW)
  | [.func (.func g) a b] => bif gs.any (Nat.beq g) then sortedAt t9 σ a.toList b.toList else none
  | _ => none
def sortedRun (gs : List Nat) (S : Nat) (t9 : TypeId) (f : Nat) (args : List Value) (σ : SW) : Option (Value × SW) :=
  bif Nat.beq f S then sortedArgs gs t9 σ args else none
def callsTo (S : Nat) (ops : Array Oper) : Bool := ops.toList.any fun o => match o.op with
  | .call { callee := .value (.func g), .. } => Nat.beq g S
  | _ => false
def sortedKn (gs : List Nat) (S : Nat) (t9 : TypeId) : Kn := ⟨callsTo S, sortedRun gs S t9⟩

/-- What must be known of slices.Sorted at the keys of a map. -/
structure SortedAt (P : Program) (S g : Nat) (t9 : TypeId) : Prop where
  k9 : P.underlying t9 = some .string
  call : ∀ (W : World) (Bm b nn : Nat) (D0 : DataW Unit) (R : Value → Option (DataW Unit × List MemPlace)), Bm < W.heap.size → W.cell? ⟨Bm, 0, none⟩ = some (.map (some b)) → W.ownsMap P t9 R b nn D0 →
    Maps.size D0 ≤ maxLen → Maps.size D0 * 16 ≤ 140737488355328 →
    Calls P S #[.func (.func g) #[] #[.pointer (some ⟨Bm, 0, none⟩)]] W fun e W' => ∃ (v : Value) (ss : List (List UInt8)), e = .returned v ∧ ss.Perm (strKeys D0) ∧
      W'.ownsRow W.heap.size t9 1 v ss.length ((ss.mergeSort leB).map encStr) ∧ (v = .slice none 0 0 ↔ ss = []) ∧ Below W.heap.size W W'

theorem insK_perm (x : List UInt8) : ∀ l, (insK x l).Perm (x :: l)
  | [] => .refl _
  | y :: r => by
    simp only [insK]
    cases leB x y
    · exact ((insK_perm x r).cons y).trans (.swap x y r)
    · exact .refl _
theorem sortK_perm : ∀ l, (sortK l).Perm l
  | [] => .refl _
  | x :: l => (insK_perm x _).trans ((sortK_perm l).cons x)
theorem pwK_spec : ∀ {l}, pwK l = true → l.Pairwise fun a b => leB a b = true
  | [], _ => .nil
  | x :: l, h => by
    simp only [pwK, Bool.and_eq_true, List.all_eq_true] at h
    exact .cons h.1 (pwK_spec h.2)
theorem apartN_spec : ∀ {l}, apartN l = true → l.Nodup
  | [], _ => .nil
  | x :: l, h => by
    simp only [apartN, Bool.and_eq_true, List.all_eq_true] at h
    refine List.nodup_cons.2 ⟨fun hm => ?_, apartN_spec h.2⟩
    have := h.1 x hm
    simp at this
theorem apartK_spec : ∀ {l}, apartK l = true → l.Nodup
  | [], _ => .nil
  | x :: l, h => by
    simp only [apartK, Bool.and_eq_true, List.all_eq_true] at h
    refine List.nodup_cons.2 ⟨fun hm => ?_, apartK_spec h.2⟩
    have := h.1 x hm
    simp [bytesBeq_eq] at this
theorem keysOf_spec : ∀ {es : List (Value × Value × Nat)} {ks : List (List UInt8)}, keysOf es = some ks → es.map (·.1) = ks.map encStr ∧ ∀ k ∈ ks, k.length ≤ 1000000
  | [], ks, h => by simp only [keysOf, Option.some.injEq] at h; subst h; simp
  | (k, v, n) :: l, ks, h => by
    cases k with
    | string s =>
      simp only [keysOf] at h
      split at h
      · rename_i r hr
        obtain ⟨hb, h⟩ := cond_some h
        cases h
        obtain ⟨h1, h2⟩ := keysOf_spec hr
        refine ⟨by simp only [List.map_cons, h1], fun k hk => ?_⟩
        rcases List.mem_cons.1 hk with rfl | hk
        · have := Nat.le_of_ble_eq_true hb
          have e : s.data.toList.length = s.size := by simp
          omega
        · exact h2 k hk
      · cases h
    | _ => simp [keysOf] at h

/-- A block more, wherever it lies. -/
theorem evo_new {σ : SW} {w w' : World} (h : Rel G ρ σ w) (hf : ρ σ.next = none) {ob : SObj} {ob' : Obj} {g cap : Nat} (hb : Below w.heap.size w w') (hg : w.heap.size ≤ g) (hw : w'.heap[g]? = some ob')
    (ho : ObjR (upd ρ σ.next (g, cap)) cap ob ob') : Evo G ρ σ w (upd ρ σ.next (g, cap)) (σ.push ob) w' := by
  have hx : Ext ρ (upd ρ σ.next (g, cap)) := upd_ext hf
  have hold : ∀ b, b < w.heap.size → w'.heap[b]? = w.heap[b]? := fun b hb' => hb.block b hb'
  refine ⟨hx, fun i hi => ?_, Nat.le_succ _, fun i o hg' hn => ?_, fun i o b c hg' hn hρ => ?_, ⟨fun i o hg' => ?_, fun i j o p b c d hi hj hρi hρj => ?_, fun g' hg' => ?_, Nat.le_trans h.gn (Nat.le_succ _)⟩, ⟨hb.os, hb.tape, hb.output, hb.size, fun b hb' _ => hold b hb'⟩⟩
  · refine upd_other fun e => ?_
    subst e
    rcases hi with hi | hi
    · omega
    · simp [SW.push] at hi; omega
  · simp only [SW.push, Tr.get_put] at hg'
    rw [if_neg (by omega)] at hg'
    exact ⟨o, hg'⟩
  · simp only [SW.push, Tr.get_put] at hg'
    by_cases e : σ.next = i
    · subst e
      rw [upd_same] at hρ
      cases hρ
      exact .inl hg
    · rw [if_neg e] at hg'
      have := h.get_lt hg'
      omega
  · simp only [SW.push, Tr.get_put] at hg' ⊢
    by_cases e : σ.next = i
    · subst e
      rw [if_pos rfl] at hg'
      cases hg'
      exact ⟨by omega, g, cap, ob', upd_same _ _ _, hw, ho⟩
    · rw [if_neg e] at hg'
      obtain ⟨h1, b, c, o', h2, h3, h4⟩ := h.live i o hg'
      exact ⟨by omega, b, c, o', by rw [upd_other (Ne.symm e)]; exact h2, by rw [hold b (heap_lt h3)]; exact h3, h4.mono hx⟩
  · simp only [SW.push, Tr.get_put] at hi hj
    by_cases e : σ.next = i
    · subst e
      by_cases e' : σ.next = j
      · exact e'
      · rw [if_neg e'] at hj
        rw [upd_same] at hρi
        rw [upd_other (Ne.symm e')] at hρj
        obtain ⟨_, b2, c2, o2, h2, h3, _⟩ := h.live j p hj
        rw [hρj] at h2
        cases h2; cases hρi
        have := heap_lt h3
        omega
    · rw [if_neg e] at hi
      rw [upd_other (Ne.symm e)] at hρi
      by_cases e' : σ.next = j
      · subst e'
        rw [upd_same] at hρj
        obtain ⟨_, b2, c2, o2, h2, h3, _⟩ := h.live i o hi
        rw [hρi] at h2
        cases h2; cases hρj
        have := heap_lt h3
        omega
      · rw [if_neg e'] at hj
        rw [upd_other (Ne.symm e')] at hρj
        exact h.inj i j o p b c d hi hj hρi hρj
  · obtain ⟨c, hc⟩ := h.glob g' hg'
    exact ⟨c, hx _ _ hc⟩
/-- Nothing that is known by name has changed. -/
theorem evo_below {σ : SW} {w w' : World} (h : Rel G ρ σ w) (hb : Below w.heap.size w w') : Evo G ρ σ w ρ σ w' :=
  ⟨Ext.refl ρ, fun _ _ => rfl, Nat.le_refl _, fun i o hg _ => ⟨o, hg⟩, fun i o b c hg hn _ => by have := (h.live i o hg).1; omega,
    ⟨fun i o hg => by
      obtain ⟨h1, b, c, o', h2, h3, h4⟩ := h.live i o hg
      exact ⟨h1, b, c, o', h2, by rw [hb.block b (heap_lt h3)]; exact h3, h4⟩, h.inj, h.glob, h.gn⟩,
    ⟨hb.os, hb.tape, hb.output, hb.size, fun b hb' _ => hb.block b hb'⟩⟩

theorem map_read {t9 : TypeId} (k9 : P.underlying t9 = some .string) {es : List (Value × Value × Nat)} {es' : Array MapEntry} {clock : Nat} {ks : List (List UInt8)} (hl : es.length = es'.size)
    (hE : ∀ (j : Nat) x e, es[j]? = some x → es'[j]? = some e → EntR ρ x e) (hk : keysOf es = some ks) (hc : ∀ x ∈ es, x.2.2 < clock) (hn : (es.map (·.2.2)).Nodup) (hks : ks.Nodup) (hsz : es.length ≤ 1000000) :
    Fit P t9 (fun _ => some ((.nil : DataW Unit), [])) es' clock ∧ (strKeys (.map ((es'.toList.map (rg P t9 (fun _ => some ((.nil : DataW Unit), [])))).foldr DataW.insert []))).Perm ks ∧
      Maps.size (.map ((es'.toList.map (rg P t9 (fun _ => some ((.nil : DataW Unit), [])))).foldr DataW.insert [])) = es.length := by
  obtain ⟨h1, h2⟩ := keysOf_spec hk
  have hborn : es'.toList.map (·.born) = es.map (·.2.2) := by
    apply List.ext_getElem?
    intro j
    simp only [List.getElem?_map, Array.getElem?_toList]
    by_cases hj : j < es.length
    · have hj' : j < es'.size := by omega
      have := hE j es[j] es'[j] (by simp [hj]) (by simp [hj'])
      simp [hj, hj', this.2.2.2]
    · rw [List.getElem?_eq_none (by omega), Array.getElem?_eq_none (by omega)]; rfl
  have hkey : es'.toList.map (·.key) = ks.map encStr := by
    rw [← h1]
    apply List.ext_getElem?
    intro j
    simp only [List.getElem?_map, Array.getElem?_toList]
    by_cases hj : j < es.length
    · have hj' : j < es'.size := by omega
      have := hE j es[j] es'[j] (by simp [hj]) (by simp [hj'])
      simp [hj, hj', this.2.1]
    · rw [List.getElem?_eq_none (by omega), Array.getElem?_eq_none (by omega)]; rfl
  have hko : ∀ x ∈ es'.toList, ∃ k ∈ ks, x.key = encStr k := fun x hx => by
    have : x.key ∈ es'.toList.map (·.key) := List.mem_map_of_mem hx
    rw [hkey] at this
    obtain ⟨k, hk, e⟩ := List.mem_map.1 this
    exact ⟨k, hk, e.symm⟩
  have hrd : ∀ x ∈ es'.toList, ∀ k, k ∈ ks → x.key = encStr k → rd P t9 (fun _ => some ((.nil : DataW Unit), [])) x = some (.string k, .nil) := fun x _ k hkm e => by
    have hs : (⟨k.toArray⟩ : ByteArray).size ≤ maxLen := by
      have := h2 k hkm
      have e2 : (⟨k.toArray⟩ : ByteArray).size = k.length := by show k.toArray.size = _; simp
      rw [e2]; unfold maxLen; omega
    have := Go.WideMaps.keyOf_string_mk k9 hs
    simp only [rd, e]
    rw [this]
    rfl
  have hrg : es'.toList.map (rg P t9 (fun _ => some ((.nil : DataW Unit), []))) = ks.map fun k => (Lit.string k, (.nil : DataW Unit)) := by
    have hlen : es'.toList.length = ks.length := by have := congrArg List.length hkey; simpa using this
    apply List.ext_getElem?
    intro j
    simp only [List.getElem?_map]
    by_cases hj : j < es'.toList.length
    · have hj2 : j < ks.length := by omega
      have hkj : (es'.toList[j]).key = encStr ks[j] := by
        have := congrArg (fun l => l[j]?) hkey
        simp only [List.getElem?_map, List.getElem?_eq_getElem hj, List.getElem?_eq_getElem hj2, Option.map_some, Option.some.injEq] at this
        exact this
      have := hrd _ (List.getElem_mem hj) ks[j] (List.getElem_mem hj2) hkj
      rw [List.getElem?_eq_getElem hj, List.getElem?_eq_getElem hj2]
      simp only [Option.map_some, rg, this, Option.getD_some]
    · rw [List.getElem?_eq_none (by omega), List.getElem?_eq_none (by omega)]; rfl
  refine ⟨⟨by unfold maxLen; omega, ⟨fun x hx => ?_, by rw [hborn]; exact hn, ?_⟩, fun x hx => ?_⟩, ?_, ?_⟩
  · have : x.born ∈ es'.toList.map (·.born) := List.mem_map_of_mem hx
    rw [hborn] at this
    obtain ⟨y, hy, e⟩ := List.mem_map.1 this
    rw [← e]; exact hc y hy
  · rw [hkey]
    exact List.pairwise_map.2 (hks.imp fun hne e => hne (by simpa using e))
  · obtain ⟨k, hkm, e⟩ := hko x hx
    exact ⟨_, hrd x hx k hkm e⟩
  · rw [hrg]
    have hp := Go.WideShapes.sorted_perm (ks.map fun k => (Lit.string k, (.nil : DataW Unit)))
    have := hp.map fun p => Go.strOf p.1
    simpa [strKeys, Go.strOf, List.map_map, Function.comp_def] using this
  · rw [hrg]
    have hp := Go.WideShapes.sorted_perm (ks.map fun k => (Lit.string k, (.nil : DataW Unit)))
    have h3 := hp.length_eq
    have hlen : es.length = ks.length := by have := congrArg List.length h1; simpa using this
    simp only [Maps.size]
    rw [h3, hlen]; simp

theorem sorted_known {gs : List Nat} {S : Nat} {t9 : TypeId} (hS : ∀ g ∈ gs, SortedAt P S g t9) : KnOk P G (sortedKn gs S t9) := by
  intro f args σ v σ' h
  simp only [sortedKn] at h
  unfold sortedRun at h
  obtain ⟨hf, h1⟩ := cond_some h
  clear h
  have h := h1
  clear h1
  have hf := Nat.eq_of_beq_eq_true hf
  subst hf
  unfold sortedArgs at h
  split at h
  · rename_i g a b
    obtain ⟨hg, h⟩ := cond_some h
    obtain ⟨g', hgm, hge⟩ := List.any_eq_true.1 hg
    have hge := Nat.eq_of_beq_eq_true hge
    rw [← hge] at hgm
    obtain ⟨k9, hcall⟩ := hS g hgm
    unfold sortedAt at h
    split at h
    · rename_i i ha hb
      split at h
      · rename_i m rest hci
        split at h
        · rename_i es clock hgm2
          cases hk : keysOf es with
          | none => rw [hk] at h; cases h
          | some ks =>
            rw [hk] at h
            simp only [sortedFin] at h
            obtain ⟨hck, h⟩ := cond_some h
            simp only [Bool.and_eq_true] at hck
            obtain ⟨⟨hc1, hc2⟩, ⟨hc3, hc4⟩, hc5⟩ := hck
            have hc5 := Nat.le_of_ble_eq_true hc5
            have hpw := pwK_spec hc4
            have hres : v = (sortedRow t9 σ (sortK ks)).1 ∧ σ' = (sortedRow t9 σ (sortK ks)).2 := by have := Option.some.inj h; rw [this]; exact ⟨rfl, rfl⟩
            have hnext : σ.next ≤ σ'.next := by
              rw [hres.2]
              cases sortK ks with
              | nil => exact Nat.le_refl _
              | cons x l => exact Nat.le_succ _
            refine ⟨?_, hnext⟩
            intro ρ args' cs w hA hr hfresh
            obtain ⟨v1, r1, e1, hv1, hr1⟩ := hA.cons_inv
            have hr1 := hr1.nil_inv
            subst hr1
            obtain rfl : args' = #[v1] := by cases args'; simp at e1; simp [e1]
            obtain ⟨a', b', rfl, hLa, hLb⟩ := hv1.func_inv (by simp)
            rw [ha] at hLa
            rw [hb] at hLb
            have ha' : a' = #[] := by have := hLa.nil_inv; cases a'; simp at this; simp [this]
            obtain ⟨p1, r2, e2, hp1, hr2⟩ := hLb.cons_inv
            have hr2 := hr2.nil_inv
            subst hr2
            obtain ⟨B, cB, hρi, rfl⟩ := hp1.ptr_inv
            have hb' : b' = #[.pointer (some ⟨B, 0, none⟩)] := by cases b'; simp at e2; simp [e2]
            subst ha'; subst hb'
            obtain ⟨B2, cB2, c', e0, hρ2, ⟨fr, _, hw⟩, hL, hlen⟩ := cells_live hr hci
            rw [hρi] at hρ2; cases hρ2
            have h0 : ∃ u, c'[0]? = some u ∧ VR ρ (.map (some m)) u := by
              obtain ⟨u, hu1, hu2⟩ := hL.get (j := 0) rfl
              rw [List.getElem?_take] at hu1
              split at hu1
              · exact ⟨u, by simpa using hu1, hu2⟩
              · cases hu1
            obtain ⟨u, hu1, hu2⟩ := h0
            obtain ⟨mb, cm, hρm, rfl⟩ : ∃ mb cm, ρ m = some (mb, cm) ∧ u = .map (some mb) := by
              cases hu2 with | map _ b c h => exact ⟨b, c, h, rfl⟩
            obtain ⟨_, mb2, cm2, o', hρm2, hwm, ho⟩ := hr.live _ _ hgm2
            rw [hρm] at hρm2; cases hρm2
            cases o' <;> simp only [ObjR] at ho
            rename_i es' clock'
            obtain ⟨rfl, hl, hE⟩ := ho
            obtain ⟨hfit, hperm, hsize⟩ := map_read k9 hl hE hk (fun x hx => by
              have := List.all_eq_true.1 hc1 x hx
              exact blt_lt this) (apartN_spec hc2) (apartK_spec hc3) hc5
            have hown : w.ownsMap P t9 (fun _ => some ((.nil : DataW Unit), [])) mb es'.size (.map ((es'.toList.map (rg P t9 (fun _ => some ((.nil : DataW Unit), [])))).foldr DataW.insert [])) :=
              ⟨es', clock', hwm, hfit, Nat.le_refl _, rfl⟩
            obtain ⟨e, w', frl, ⟨v', ss, rfl, hss, hrow, hnil, hbel⟩, hsteps, hfn, hmode, hdefs, hkind, fnv, hfv, hresu⟩ :=
              hcall w B mb _ _ _ (heap_lt hw) (by rw [cell_at hw]; exact hu1) hown (by rw [hsize]; unfold maxLen; omega) (by rw [hsize]; omega) cs
            have hsort : ss.mergeSort leB = sortK ks := by
              rw [mergeSort_of_perm ((hss.trans hperm).trans (sortK_perm ks).symm)]
              exact List.mergeSort_of_pairwise hpw
            rw [hsort] at hrow
            have hlen2 : ss.length = (sortK ks).length := by rw [← hsort]; simp
            have leav : ∀ ρ', VR ρ' v v' → Leav P ρ' f .normal (.ret v) frl w' := fun ρ' hv => ⟨hfn, hkind, hdefs, fnv, by rw [← hfn]; exact hfv, v', hv, hmode, hresu⟩
            cases hsk : sortK ks with
            | nil =>
              rw [hsk] at hres hlen2
              obtain ⟨rfl, rfl⟩ := hres
              have hs0 : ss = [] := List.length_eq_zero_iff.1 (by simpa using hlen2)
              have hv0 := hnil.2 hs0
              exact ⟨ρ, frl, w', evo_below hr hbel, hsteps, leav ρ (by rw [hv0]; exact .snil 0 0)⟩
            | cons x l =>
              rw [hsk] at hres hlen2 hrow
              obtain ⟨rfl, rfl⟩ := hres
              simp only [List.length_cons] at hlen2
              obtain ⟨_, ⟨_, h0⟩ | ⟨g, cap, cur, hv', hge, hgw, hcap, _, hcs, htake⟩⟩ := hrow
              · omega
              · subst hv'
                have hfn0 := hfresh σ.next (Nat.le_refl _) (Nat.lt_succ_self _)
                refine ⟨upd ρ σ.next (g, cap), frl, w', evo_new (σ := σ) (ob := .row ((x :: l).map encStr) t9 1) hr hfn0 hbel hge hgw ?_, hsteps, leav _ ?_⟩
                · refine ⟨rfl, .inl rfl, hcs, ?_, ?_⟩
                  · rw [hcs, Nat.mul_one]; simp; omega
                  · have : ((x :: l).map encStr).length = ss.length * 1 := by rw [hlen2]; simp
                    rw [this, htake]
                    exact LR.of_plain fun u hu => by
                      obtain ⟨y, _, rfl⟩ := List.mem_map.1 hu
                      rfl
                · rw [hlen2]
                  exact .slx _ _ _ _ (upd_same _ _ _) (by omega)
        · cases h
      · cases h
    · cases h
  · cases h
end Go.Sh
