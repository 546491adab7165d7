/- Shadow evaluation, 2: shadow values and heaps; what relates them to a world. -/
import Derived.Test.YtjipcihcldngbaaGreatDoorShA
namespace Go.Sh

/-- A capacity that is not known (it is at least the length; it is what the map rho says of the row). -/
def CAPX : Nat := 4611686018427387904
/-- The same, of a slice that begins somewhere within. -/
def CAPY : Nat := 4611686018427387903
theorem capy_lt : CAPY < CAPX := by decide

/-- A value without an address. -/
def plainN : Nat → Value → Bool
  | 0, _ => false
  | _ + 1, .bool _ | _ + 1, .int _ _ | _ + 1, .string _ | _ + 1, .pointer none | _ + 1, .slice none _ _ | _ + 1, .map none | _ + 1, .nilFunc | _ + 1, .nilIface => true
  | n + 1, .iface _ v => plainN n v
  | n + 1, .agg cs => cs.toList.all (plainN n)
  | n + 1, .tuple cs => cs.toList.all (plainN n)
  | _ + 1, .func (.func _) a b => a.toList.isEmpty && b.toList.isEmpty
  | _, _ => false
def plain (v : Value) : Bool := plainN 12 v

/-- Where a shadow block lies, and what the capacity of a row is. -/
@[reducible] def Rho := Nat → Option (Nat × Nat)

/-- A shadow value and a value. -/
inductive VR (ρ : Rho) : Value → Value → Prop where
  | bool (b : Bool) : VR ρ (.bool b) (.bool b)
  | int (k : IntKind) (n : Int) : VR ρ (.int k n) (.int k n)
  | string (s : ByteArray) : VR ρ (.string s) (.string s)
  | pnil : VR ρ (.pointer none) (.pointer none)
  | ptr (i off b c : Nat) (h : ρ i = some (b, c)) : VR ρ (.pointer (some ⟨i, off, none⟩)) (.pointer (some ⟨b, off, none⟩))
  | snil (n c : Nat) : VR ρ (.slice none n c) (.slice none n c)
  | sl (i off n c b cc : Nat) (h : ρ i = some (b, cc)) (hc : c ≠ CAPX ∧ c ≠ CAPY) : VR ρ (.slice (some ⟨i, off, none⟩) n c) (.slice (some ⟨b, off, none⟩) n c)
  | slx (i n b cc : Nat) (h : ρ i = some (b, cc)) (hn : n ≤ cc) : VR ρ (.slice (some ⟨i, 0, none⟩) n CAPX) (.slice (some ⟨b, 0, none⟩) n cc)
  | sly (i off n b cc c' : Nat) (h : ρ i = some (b, cc)) (hn : n ≤ c') : VR ρ (.slice (some ⟨i, off, none⟩) n CAPY) (.slice (some ⟨b, off, none⟩) n c')
  | mnil : VR ρ (.map none) (.map none)
  | map (i b c : Nat) (h : ρ i = some (b, c)) : VR ρ (.map (some i)) (.map (some b))
  | func (f : Fn) (a b a' b' : Array Value) (hf : ∀ l, f ≠ .yield l) (ha : a.size = a'.size) (hb : b.size = b'.size)
      (h : ∀ (j : Nat) v v', a[j]? = some v → a'[j]? = some v' → VR ρ v v') (h' : ∀ (j : Nat) v v', b[j]? = some v → b'[j]? = some v' → VR ρ v v') :
      VR ρ (.func f a b) (.func f a' b')
  | yield (i b c : Nat) (h : ρ i = some (b, c)) : VR ρ (.func (.yield i) #[] #[]) (.func (.yield b) #[] #[])
  | any (v' : Value) (h : v'.oneCell' = true) : VR ρ (.chan none) v'    -- a value of one cell of which nothing is known
  | nilFunc : VR ρ .nilFunc .nilFunc
  | nilIface : VR ρ .nilIface .nilIface
  | iface (t : TypeId) (v v' : Value) (h : VR ρ v v') : VR ρ (.iface t v) (.iface t v')
  | agg (a a' : Array Value) (ha : a.size = a'.size) (h : ∀ (j : Nat) v v', a[j]? = some v → a'[j]? = some v' → VR ρ v v') : VR ρ (.agg a) (.agg a')
  | tuple (a a' : Array Value) (ha : a.size = a'.size) (h : ∀ (j : Nat) v v', a[j]? = some v → a'[j]? = some v' → VR ρ v v') : VR ρ (.tuple a) (.tuple a')

def Ext (ρ ρ' : Rho) : Prop := ∀ i x, ρ i = some x → ρ' i = some x
theorem Ext.refl (ρ : Rho) : Ext ρ ρ := fun _ _ h => h
theorem Ext.trans {a b c : Rho} (h : Ext a b) (k : Ext b c) : Ext a c := fun i x e => k i x (h i x e)

theorem VR.mono {ρ ρ' : Rho} (he : Ext ρ ρ') {v v' : Value} (h : VR ρ v v') : VR ρ' v v' := by
  induction h with
  | bool b => exact .bool b
  | int k n => exact .int k n
  | string s => exact .string s
  | pnil => exact .pnil
  | ptr i off b c h => exact .ptr i off b c (he _ _ h)
  | snil n c => exact .snil n c
  | sl i off n c b cc h hc => exact .sl i off n c b cc (he _ _ h) hc
  | slx i n b cc h hn => exact .slx i n b cc (he _ _ h) hn
  | sly i off n b cc c' h hn => exact .sly i off n b cc c' (he _ _ h) hn
  | mnil => exact .mnil
  | map i b c h => exact .map i b c (he _ _ h)
  | func f a b a' b' hf ha hb _ _ h h' => exact .func f a b a' b' hf ha hb h h'
  | yield i b c h => exact .yield i b c (he _ _ h)
  | any v' h => exact .any v' h
  | nilFunc => exact .nilFunc
  | nilIface => exact .nilIface
  | iface t v v' _ h => exact .iface t v v' h
  | agg a a' ha _ h => exact .agg a a' ha h
  | tuple a a' ha _ h => exact .tuple a a' ha h

/-- Lists of values. -/
structure LR (ρ : Rho) (l l' : List Value) : Prop where
  len : l.length = l'.length
  at_ : ∀ (j : Nat) v v', l[j]? = some v → l'[j]? = some v' → VR ρ v v'

theorem LR.mono {ρ ρ' : Rho} (he : Ext ρ ρ') {l l' : List Value} (h : LR ρ l l') : LR ρ' l l' := ⟨h.len, fun j v v' a b => (h.at_ j v v' a b).mono he⟩
theorem LR.nil (ρ : Rho) : LR ρ [] [] := ⟨rfl, fun j v v' a _ => by simp at a⟩
theorem LR.get {ρ : Rho} {l l' : List Value} (h : LR ρ l l') {j : Nat} {v : Value} (hv : l[j]? = some v) : ∃ v', l'[j]? = some v' ∧ VR ρ v v' := by
  have hj : j < l'.length := by
    have := (List.getElem?_eq_some_iff.1 hv).1; have := h.len; omega
  exact ⟨l'[j], by simp [hj], h.at_ j v _ hv (by simp [hj])⟩
theorem LR.cons {ρ : Rho} {v v' : Value} {l l' : List Value} (hv : VR ρ v v') (h : LR ρ l l') : LR ρ (v :: l) (v' :: l') := by
  refine ⟨by simp [h.len], fun j a b ha hb => ?_⟩
  cases j with
  | zero => simp at ha hb; subst ha; subst hb; exact hv
  | succ j => simp at ha hb; exact h.at_ j a b ha hb
theorem LR.cons_inv {ρ : Rho} {v : Value} {l l' : List Value} (h : LR ρ (v :: l) l') : ∃ v' r', l' = v' :: r' ∧ VR ρ v v' ∧ LR ρ l r' := by
  cases l' with
  | nil => have := h.len; simp at this
  | cons v' r' => exact ⟨v', r', rfl, h.at_ 0 v v' rfl rfl, by have := h.len; simpa using this, fun j a b ha hb => h.at_ (j + 1) a b (by simpa using ha) (by simpa using hb)⟩
theorem LR.nil_inv {ρ : Rho} {l' : List Value} (h : LR ρ [] l') : l' = [] := by
  have := h.len; exact List.length_eq_zero_iff.1 this.symm
theorem LR.append {ρ : Rho} {a a' b b' : List Value} (h : LR ρ a a') (k : LR ρ b b') : LR ρ (a ++ b) (a' ++ b') := by
  refine ⟨by simp [h.len, k.len], fun j v v' hv hv' => ?_⟩
  by_cases hj : j < a.length
  · rw [List.getElem?_append_left hj] at hv
    rw [List.getElem?_append_left (h.len ▸ hj)] at hv'
    exact h.at_ j v v' hv hv'
  · rw [List.getElem?_append_right (by omega)] at hv
    rw [List.getElem?_append_right (by have := h.len; omega)] at hv'
    rw [h.len] at hv
    exact k.at_ _ v v' hv hv'
theorem LR.take {ρ : Rho} {a a' : List Value} (h : LR ρ a a') (n : Nat) : LR ρ (a.take n) (a'.take n) := by
  refine ⟨by simp [h.len], fun j v v' hv hv' => ?_⟩
  rw [List.getElem?_take] at hv hv'
  split at hv
  · rename_i hj; rw [if_pos hj] at hv'; exact h.at_ j v v' hv hv'
  · cases hv
theorem LR.drop {ρ : Rho} {a a' : List Value} (h : LR ρ a a') (n : Nat) : LR ρ (a.drop n) (a'.drop n) := by
  refine ⟨by simp [h.len], fun j v v' hv hv' => ?_⟩
  rw [List.getElem?_drop] at hv hv'
  exact h.at_ _ v v' hv hv'
theorem LR.set {ρ : Rho} {a a' : List Value} (h : LR ρ a a') (n : Nat) {v v' : Value} (hv : VR ρ v v') : LR ρ (a.set n v) (a'.set n v') := by
  refine ⟨by simp [h.len], fun j x x' hx hx' => ?_⟩
  rw [List.getElem?_set] at hx hx'
  by_cases e : n = j
  · subst e
    simp only [if_true] at hx hx'
    split at hx
    · rename_i hl; rw [if_pos (h.len ▸ hl)] at hx'; cases hx; cases hx'; exact hv
    · cases hx
  · rw [if_neg e] at hx hx'; exact h.at_ j x x' hx hx'

theorem VR.agg_inv {ρ : Rho} {a : Array Value} {v' : Value} (h : VR ρ (.agg a) v') : ∃ a', v' = .agg a' ∧ LR ρ a.toList a'.toList := by
  cases h with
  | agg _ a' ha h => exact ⟨a', rfl, by simpa using ha, fun j v v' hv hv' => h j v v' (by simpa using hv) (by simpa using hv')⟩
theorem VR.tuple_inv {ρ : Rho} {a : Array Value} {v' : Value} (h : VR ρ (.tuple a) v') : ∃ a', v' = .tuple a' ∧ LR ρ a.toList a'.toList := by
  cases h with
  | tuple _ a' ha h => exact ⟨a', rfl, by simpa using ha, fun j v v' hv hv' => h j v v' (by simpa using hv) (by simpa using hv')⟩
theorem VR.of_agg {ρ : Rho} {l l' : List Value} (h : LR ρ l l') : VR ρ (.agg ⟨l⟩) (.agg ⟨l'⟩) :=
  .agg _ _ (by simpa using h.len) fun j v v' hv hv' => h.at_ j v v' (by simpa using hv) (by simpa using hv')
theorem VR.of_tuple {ρ : Rho} {l l' : List Value} (h : LR ρ l l') : VR ρ (.tuple ⟨l⟩) (.tuple ⟨l'⟩) :=
  .tuple _ _ (by simpa using h.len) fun j v v' hv hv' => h.at_ j v v' (by simpa using hv) (by simpa using hv')

/-- A plain value is the same on both sides. -/
theorem plainN_eq {ρ : Rho} : ∀ (n : Nat) {v v' : Value}, plainN n v = true → VR ρ v v' → v' = v := by
  intro n
  induction n with
  | zero => intro v v' h; simp [plainN] at h
  | succ n ih =>
    intro v v' h hr
    cases hr with
    | bool | int | string | pnil | snil | mnil | nilFunc | nilIface => rfl
    | ptr | sl | slx | sly | map | yield | any => simp [plainN] at h
    | func f a b a' b' hf ha hb _ _ =>
      cases f <;> simp [plainN] at h
      obtain ⟨h1, h2⟩ := h
      subst h1; subst h2
      have e1 : a' = #[] := Array.eq_empty_of_size_eq_zero (by rw [← ha]; rfl)
      have e2 : b' = #[] := Array.eq_empty_of_size_eq_zero (by rw [← hb]; rfl)
      rw [e1, e2]
    | iface t v v' hv => simp only [plainN] at h; rw [ih h hv]
    | agg a a' ha hv =>
      simp only [plainN, List.all_eq_true] at h
      congr 1
      apply Array.ext ha.symm
      intro j h1 h2
      exact ih (h _ (by simp)) (hv j _ _ (by simp [h2]) (by simp [h1]))
    | tuple a a' ha hv =>
      simp only [plainN, List.all_eq_true] at h
      congr 1
      apply Array.ext ha.symm
      intro j h1 h2
      exact ih (h _ (by simp)) (hv j _ _ (by simp [h2]) (by simp [h1]))
theorem plain_eq {ρ : Rho} {v v' : Value} (h : plain v = true) (hr : VR ρ v v') : v' = v := plainN_eq 12 h hr
theorem plainN_refl (ρ : Rho) : ∀ (n : Nat) {v : Value}, plainN n v = true → VR ρ v v := by
  intro n
  induction n with
  | zero => intro v h; simp [plainN] at h
  | succ n ih =>
    intro v h
    cases v with
    | bool b => exact .bool b
    | int k n => exact .int k n
    | string s => exact .string s
    | pointer a => cases a with
      | none => exact .pnil
      | some a => simp [plainN] at h
    | slice a n c => cases a with
      | none => exact .snil n c
      | some a => simp [plainN] at h
    | map r => cases r with
      | none => exact .mnil
      | some a => simp [plainN] at h
    | nilFunc => exact .nilFunc
    | nilIface => exact .nilIface
    | iface t v => simp only [plainN] at h; exact .iface t v v (ih h)
    | agg a =>
      simp only [plainN, List.all_eq_true] at h
      refine .agg a a rfl fun j v v' hv hv' => ?_
      rw [hv] at hv'; cases hv'
      exact ih (h v (by simpa using Array.mem_of_getElem? hv))
    | tuple a =>
      simp only [plainN, List.all_eq_true] at h
      refine .tuple a a rfl fun j v v' hv hv' => ?_
      rw [hv] at hv'; cases hv'
      exact ih (h v (by simpa using Array.mem_of_getElem? hv))
    | func fn a b =>
      cases fn <;> simp [plainN] at h
      obtain ⟨h1, h2⟩ := h
      subst h1; subst h2
      exact .func _ _ _ _ _ (fun l => by simp) rfl rfl (fun j v v' hv => by simp at hv) (fun j v v' hv => by simp at hv)
    | _ => simp [plainN] at h
theorem plain_refl (ρ : Rho) {v : Value} (h : plain v = true) : VR ρ v v := plainN_refl ρ 12 h

/-- A value that one cell holds, on both sides. -/
theorem VR.oneCell {ρ : Rho} {v v' : Value} (h : VR ρ v v') : v.oneCell' = v'.oneCell' := by cases h <;> first | rfl | (rename_i h; rw [h]; rfl)
theorem VR.cells {ρ : Rho} {v v' : Value} (h : VR ρ v v') : LR ρ v.cells.toList v'.cells.toList := by
  cases h with
  | agg a a' ha h => exact ⟨by simpa [Value.cells] using ha, fun j v v' hv hv' => h j v v' (by simpa [Value.cells] using hv) (by simpa [Value.cells] using hv')⟩
  | any _ h =>
    cases v' <;> first | exact LR.cons (.any _ h) (LR.nil ρ) | simp [Value.oneCell'] at h
  | _ => exact LR.cons (by first | exact .bool _ | exact .int _ _ | exact .string _ | exact .pnil | (exact .ptr _ _ _ _ ‹_›) | exact .snil _ _ | (exact .sl _ _ _ _ _ _ ‹_› ‹_›) | (exact .slx _ _ _ _ ‹_› ‹_›) | (exact .sly _ _ _ _ _ _ ‹_› ‹_›) | exact .mnil | (exact .map _ _ _ ‹_›) | (exact .func _ _ _ _ _ ‹_› ‹_› ‹_› ‹_› ‹_›) | (exact .yield _ _ _ ‹_›) | exact .nilFunc | exact .nilIface | (exact .iface _ _ _ ‹_›) | (exact .tuple _ _ ‹_› ‹_›)) (LR.nil ρ)

/-! ### Heaps -/
inductive SObj where
  | cells (c : List Value) (e : TypeId)
  | row (c : List Value) (e : TypeId) (size : Nat)    -- a row whose length is not known; size: an element's cells
  | map (es : List (Value × Value × Nat)) (clock : Nat)
  | siter (s : ByteArray) (pos : Nat)
  | miter (m : Option Nat) (since : Nat) (seen : List Nat) (stepped : Nat)
  | loop (st : LoopState) (pend : Option Code) (fn : Nat) (tm : Tr Value) (n : Nat) (params : List Tmp) (assign body : Code) (d : Nat)
  | dfr

structure SW where
  heap : Tr SObj
  next : Nat

/-- Temporaries: what is known of them. -/
def TmR (ρ : Rho) (tm : Tr Value) (tmps : Array Value) : Prop := ∀ t v, tm.get t = some v → ∃ v', tmps[t]? = some v' ∧ VR ρ v v'
theorem TmR.mono {ρ ρ' : Rho} (he : Ext ρ ρ') {tm : Tr Value} {tmps : Array Value} (h : TmR ρ tm tmps) : TmR ρ' tm tmps := fun t v hv =>
  let ⟨v', a, b⟩ := h t v hv; ⟨v', a, b.mono he⟩

def EntR (ρ : Rho) (x : Value × Value × Nat) (e : MapEntry) : Prop := plain x.1 = true ∧ e.key = x.1 ∧ VR ρ x.2.1 e.val ∧ e.born = x.2.2

/-- No cell is frozen. -/
def NoFr (fr : Nat × Nat) (n : Nat) : Prop := fr.1 = fr.2 ∨ n ≤ fr.1
def ObjR (ρ : Rho) (cap : Nat) : SObj → Obj → Prop
  | .cells c e, .cells c' e' fr => e' = e ∧ NoFr fr c'.size ∧ LR ρ c c'.toList
  | .row c e size, .cells c' e' fr => e' = e ∧ NoFr fr c'.size ∧ c'.size = cap * size ∧ c.length ≤ c'.size ∧ LR ρ c (c'.toList.take c.length)
  | .map es clock, .map es' clock' => clock' = clock ∧ es.length = es'.size ∧ ∀ (j : Nat) x e, es[j]? = some x → es'[j]? = some e → EntR ρ x e
  | .siter s p, .stringIter s' p' => s' = s ∧ p' = p
  | .miter m since seen st, .mapIter m' since' seen' st' => since' = since ∧ seen'.toList = seen ∧ st' = st ∧ (match m, m' with | none, none => True | some i, some b => ∃ c, ρ i = some (b, c) | _, _ => False)
  | .loop st pend fn tm n params assign body d, .loop l => l.state = st ∧ l.pending = pend ∧ l.fn = fn ∧ (TmR ρ tm l.tmps ∧ n ≤ l.tmps.size) ∧ l.params.toList = params ∧ l.assign = assign ∧ l.body = body ∧ ∃ c, ρ d = some (l.defers, c)
  | .dfr, .deferred ds => ds = some []
  | _, _ => False

theorem ObjR.mono {ρ ρ' : Rho} (he : Ext ρ ρ') {cap : Nat} {o : SObj} {o' : Obj} (h : ObjR ρ cap o o') : ObjR ρ' cap o o' := by
  cases o <;> cases o' <;> simp only [ObjR] at h ⊢
  case cells.cells => exact ⟨h.1, h.2.1, h.2.2.mono he⟩
  case row.cells => exact ⟨h.1, h.2.1, h.2.2.1, h.2.2.2.1, h.2.2.2.2.mono he⟩
  case map.map => exact ⟨h.1, h.2.1, fun j x e a b => let ⟨p, q, r, s⟩ := h.2.2 j x e a b; ⟨p, q, r.mono he, s⟩⟩
  case siter.stringIter => exact h
  case miter.mapIter m _ _ _ m' _ _ _ =>
    refine ⟨h.1, h.2.1, h.2.2.1, ?_⟩
    have := h.2.2.2
    cases m <;> cases m' <;> simp only at this ⊢
    obtain ⟨c, hc⟩ := this
    exact ⟨c, he _ _ hc⟩
  case loop.loop => exact ⟨h.1, h.2.1, h.2.2.1, ⟨h.2.2.2.1.1.mono he, h.2.2.2.1.2⟩, h.2.2.2.2.1, h.2.2.2.2.2.1, h.2.2.2.2.2.2.1, let ⟨c, hc⟩ := h.2.2.2.2.2.2.2; ⟨c, he _ _ hc⟩⟩
  case dfr.deferred => exact h

/-- A shadow heap and a world. G: so many package-level variables there are. -/
structure Rel (G : Nat) (ρ : Rho) (σ : SW) (w : World) : Prop where
  live : ∀ i o, σ.heap.get i = some o → i < σ.next ∧ ∃ b c o', ρ i = some (b, c) ∧ w.heap[b]? = some o' ∧ ObjR ρ c o o'
  inj : ∀ i j o p b c d, σ.heap.get i = some o → σ.heap.get j = some p → ρ i = some (b, c) → ρ j = some (b, d) → i = j
  glob : ∀ g, g < G → ∃ c, ρ g = some (g, c)
  gn : G ≤ σ.next

/-- From w to w' no block has changed that no live shadow block from lo on stands for. -/
structure Keep (lo : Nat) (ρ : Rho) (σ : SW) (w w' : World) : Prop where
  os : w'.os = w.os
  tape : w'.tape = w.tape
  output : w'.output = w.output
  size : w.heap.size ≤ w'.heap.size
  block : ∀ b, b < w.heap.size → (∀ i o c, lo ≤ i → σ.heap.get i = some o → ρ i ≠ some (b, c)) → w'.heap[b]? = w.heap[b]?

end Go.Sh
