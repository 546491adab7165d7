/- Results as they are told of memory: data, and what memory holds. -/
import Derived.Test.YtfgjiidbafdndaaGreatDoorK1
import Derived.Test.YtfgjiidbafdndaaGreatDoorRows
import Derived.Deep.Slices
import Derived.ChangeArms
import Derived.Lib.LaidU8
namespace Go.Proofs.YtfgjiidbafdndaaGreatDoor
open Go.RowKit
structure ResF where
 type : Int
 code : Int
 path : ByteArray
 czxid : Int
 mzxid : Int
 ctime : Int
 mtime : Int
 version : Int
 cversion : Int
 aversion : Int
 owner : Int
 dlen : Int
 nkids : Int
 pzxid : Int
 data : List UInt8
 acl : List AclD
 names : List ByteArray
 count : Int
 sid : Int
 timeout : Int
 ids : List IdD
def ResF.cells (f : ResF) (data acl names ids subs : Value) : List Value :=
 [.int .i32 f.type, .int .i32 f.code, .string f.path, .int .i64 f.czxid, .int .i64 f.mzxid, .int .i64 f.ctime, .int .i64 f.mtime, .int .i32 f.version, .int .i32 f.cversion, .int .i32 f.aversion,
  .int .i64 f.owner, .int .i32 f.dlen, .int .i32 f.nkids, .int .i64 f.pzxid, data, acl, names, .int .i32 f.count, .int .i64 f.sid, .int .i32 f.timeout, ids, subs]
inductive ResD where
 | mk (f : ResF) (subs : List ResD)
mutual
def ResR (A : Nat → Prop) (w : World) : ResD → List Value → Prop
 | .mk f subs, cs => ∃ vd va vi vp vs rows, cs = f.cells vd va vi vp vs ∧ SlR A w 1 vd (f.data.map byteCells) ∧ SlR A w 3 va (f.acl.map AclD.cells) ∧ SlR A w 1 vi (f.names.map strCells) ∧
   SlR A w 2 vp (f.ids.map IdD.cells) ∧ SlR A w 22 vs rows ∧ RessR A w subs rows
def RessR (A : Nat → Prop) (w : World) : List ResD → List (List Value) → Prop
 | [], rows => rows = []
 | t :: ts, rows => ∃ r rs, rows = r :: rs ∧ ResR A w t r ∧ RessR A w ts rs
end
mutual
theorem ResR.mono {A B : Nat → Prop} {w : World} (hab : ∀ b, A b → B b) : ∀ {t : ResD} {cs : List Value}, ResR A w t cs → ResR B w t cs
 | .mk f subs, cs, h => by
  rw [ResR] at h ⊢
  obtain ⟨vd, va, vi, vp, vs, rows, h0, h1, h2, h3, h4, h5, h6⟩ := h
  exact ⟨vd, va, vi, vp, vs, rows, h0, h1.mono hab, h2.mono hab, h3.mono hab, h4.mono hab, h5.mono hab, RessR.mono hab h6⟩
theorem RessR.mono {A B : Nat → Prop} {w : World} (hab : ∀ b, A b → B b) : ∀ {ts : List ResD} {rows : List (List Value)}, RessR A w ts rows → RessR B w ts rows
 | [], rows, h => by rw [RessR] at h ⊢; exact h
 | t :: ts, rows, h => by
  rw [RessR] at h ⊢
  obtain ⟨r, rs, h0, h1, h2⟩ := h
  exact ⟨r, rs, h0, ResR.mono hab h1, RessR.mono hab h2⟩
end
mutual
theorem ResR.kept {A : Nat → Prop} {w w' : World} (hk : ∀ b, A b → w'.heap[b]? = w.heap[b]?) : ∀ {t : ResD} {cs : List Value}, ResR A w t cs → ResR A w' t cs
 | .mk f subs, cs, h => by
  rw [ResR] at h ⊢
  obtain ⟨vd, va, vi, vp, vs, rows, h0, h1, h2, h3, h4, h5, h6⟩ := h
  exact ⟨vd, va, vi, vp, vs, rows, h0, h1.kept hk, h2.kept hk, h3.kept hk, h4.kept hk, h5.kept hk, RessR.kept hk h6⟩
theorem RessR.kept {A : Nat → Prop} {w w' : World} (hk : ∀ b, A b → w'.heap[b]? = w.heap[b]?) : ∀ {ts : List ResD} {rows : List (List Value)}, RessR A w ts rows → RessR A w' ts rows
 | [], rows, h => by rw [RessR] at h ⊢; exact h
 | t :: ts, rows, h => by
  rw [RessR] at h ⊢
  obtain ⟨r, rs, h0, h1, h2⟩ := h
  exact ⟨r, rs, h0, ResR.kept hk h1, RessR.kept hk h2⟩
end
theorem ResR.length {A : Nat → Prop} {w : World} : ∀ {t : ResD} {cs : List Value}, ResR A w t cs → cs.length = 22
 | .mk f subs, cs, h => by
  rw [ResR] at h
  obtain ⟨vd, va, vi, vp, vs, rows, h0, _⟩ := h
  subst h0; rfl
structure ResF.Ok (f : ResF) : Prop where
 data : f.data.length ≤ 1048576
 acl : f.acl.length ≤ 1048576
 ids : f.ids.length ≤ 1048576
 names : f.names.length ≤ 1048576
 path : f.path.size ≤ 1048576
 acl1 : ∀ x ∈ f.acl, x.id.scheme.size ≤ 1048576 ∧ x.id.id.size ≤ 1048576
 ids1 : ∀ x ∈ f.ids, x.scheme.size ≤ 1048576 ∧ x.id.size ≤ 1048576
 names1 : ∀ x ∈ f.names, x.size ≤ 1048576
mutual
def ResOk : ResD → Prop
 | .mk f subs => f.Ok ∧ subs.length ≤ 1048576 ∧ RessOk subs
def RessOk : List ResD → Prop
 | [] => True
 | t :: ts => ResOk t ∧ RessOk ts
end
theorem RessOk.get : ∀ {ts : List ResD}, RessOk ts → ∀ {k : Nat} {t : ResD}, ts[k]? = some t → ResOk t
 | [], _, k, t, h => by simp at h
 | a :: ts, h, 0, t, hk => by rw [RessOk] at h; simp at hk; exact hk ▸ h.1
 | a :: ts, h, k + 1, t, hk => by rw [RessOk] at h; exact RessOk.get h.2 (by simpa using hk)
theorem RessR.len {A : Nat → Prop} {w : World} : ∀ {ts : List ResD} {rows : List (List Value)}, RessR A w ts rows → rows.length = ts.length
 | [], rows, h => by rw [RessR] at h; simp [h]
 | t :: ts, rows, h => by
  rw [RessR] at h
  obtain ⟨r, rs, rfl, h1, h2⟩ := h
  simp [h2.len]
theorem RessR.get {A : Nat → Prop} {w : World} : ∀ {ts : List ResD} {rows : List (List Value)}, RessR A w ts rows → ∀ {k : Nat} {t : ResD}, ts[k]? = some t → ∃ r, rows[k]? = some r ∧ ResR A w t r
 | [], rows, h, k, t, hk => by simp at hk
 | a :: ts, rows, h, 0, t, hk => by
  rw [RessR] at h
  obtain ⟨r, rs, rfl, h1, h2⟩ := h
  simp at hk
  exact ⟨r, rfl, hk ▸ h1⟩
 | a :: ts, rows, h, k + 1, t, hk => by
  rw [RessR] at h
  obtain ⟨r, rs, rfl, h1, h2⟩ := h
  simpa using h2.get (by simpa using hk)
theorem RessR.each {A : Nat → Prop} {w : World} : ∀ {ts : List ResD} {rows : List (List Value)}, RessR A w ts rows → ∀ r ∈ rows, r.length = 22
 | [], rows, h, r, hr => by rw [RessR] at h; subst h; cases hr
 | t :: ts, rows, h, r, hr => by
  rw [RessR] at h
  obtain ⟨r', rs, rfl, h1, h2⟩ := h
  rcases List.mem_cons.1 hr with rfl | hr
  ·exact h1.length
  ·exact h2.each r hr
theorem RessR.snoc {A : Nat → Prop} {w : World} : ∀ {ts : List ResD} {rows : List (List Value)}, RessR A w ts rows → ∀ {t : ResD} {r : List Value}, ResR A w t r → RessR A w (ts ++ [t]) (rows ++ [r])
 | [], rows, h, t, r, hr => by
  rw [RessR] at h
  subst h
  exact ⟨r, [], rfl, hr, by rw [RessR]⟩
 | a :: ts, rows, h, t, r, hr => by
  rw [RessR] at h
  obtain ⟨r', rs, rfl, h1, h2⟩ := h
  exact ⟨r', rs ++ [r], rfl, h1, h2.snoc hr⟩
theorem ResR.one {A : Nat → Prop} {w : World} : ∀ {t : ResD} {cs : List Value}, ResR A w t cs → ∀ u ∈ cs, u.oneCell' = true
 | .mk f subs, cs, h, u, hu => by
  rw [ResR] at h
  obtain ⟨vd, va, vi, vp, vs, rows, rfl, h1, h2, h3, h4, h5, h6⟩ := h
  obtain ⟨ad, nd, cd, rfl⟩ := h1.slice
  obtain ⟨aa, na, ca, rfl⟩ := h2.slice
  obtain ⟨ai, ni, ci, rfl⟩ := h3.slice
  obtain ⟨ap, np, cp, rfl⟩ := h4.slice
  obtain ⟨asb, ns, csb, rfl⟩ := h5.slice
  simp only [ResF.cells, List.mem_cons, List.not_mem_nil, or_false] at hu
  rcases hu with rfl | rfl | rfl | rfl | rfl | rfl | rfl | rfl | rfl | rfl | rfl | rfl | rfl | rfl | rfl | rfl | rfl | rfl | rfl | rfl | rfl | rfl <;> rfl
theorem RessR.one {A : Nat → Prop} {w : World} : ∀ {ts : List ResD} {rows : List (List Value)}, RessR A w ts rows → ∀ r ∈ rows, ∀ u ∈ r, u.oneCell' = true
 | [], rows, h, r, hr => by rw [RessR] at h; subst h; cases hr
 | t :: ts, rows, h, r, hr => by
  rw [RessR] at h
  obtain ⟨r', rs, rfl, h1, h2⟩ := h
  rcases List.mem_cons.1 hr with rfl | hr
  ·exact h1.one
  ·exact h2.one r hr
end Go.Proofs.YtfgjiidbafdndaaGreatDoor
namespace Go.Proofs.YtfgjiidbafdndaaGreatDoor
open Go Go.RowKit
section
section
variable {P : Program} {ops : Array Oper} {Q : Exit → Act → World → Prop} {md : Region.Mode} {K : List Nat} {F : World → Prop}
def late (K : List Nat) (listed : Array Bool) : Bool := K.any fun k => listed.getD k false
def wpAnyG (P : Program) (md : Region.Mode) (ops : Array Oper) (Q : Exit → Act → World → Prop) (K : List Nat) (F : World → Prop) : Nat → Array Bool → Act → World → Prop
 | 0, listed, a, w => Region.ready md ops listed = [] ∧ Q .normal a w
 | n + 1, listed, a, w =>
  (Region.ready md ops listed = [] → Q .normal a w) ∧
  ∀ i ∈ Region.ready md ops listed, wpOp P ops Q i (fun a' w' => (late K (listed.setIfInBounds i true) = true ∨ F w') ∧ wpAnyG P md ops Q K F n (listed.setIfInBounds i true) a' w') a w
theorem wpAny_ofG : ∀ (n : Nat) (listed : Array Bool) (a : Act) (w : World), wpAnyG P md ops Q K F n listed a w → wpAny P md ops Q n listed a w
 | 0, _, _, _, h => h
 | n + 1, _, _, _, h => ⟨h.1, fun i hi => wpOp_mono (fun a' w' h' => wpAny_ofG n _ a' w' h'.2) (h.2 i hi)⟩
theorem getD_set_false {l : Array Bool} {i k : Nat} (h : i ≠ k) : (l.setIfInBounds i true).getD k false = l.getD k false := by
 simp [h]
theorem late_set {listed : Array Bool} {i : Nat} (hi : i ∉ K) : late K (listed.setIfInBounds i true) = late K listed := by
 unfold late
 rw [Bool.eq_iff_iff, List.any_eq_true, List.any_eq_true]
 constructor
 ·rintro ⟨k, hk, h⟩
  exact ⟨k, hk, by
   have hne : i ≠ k := fun e => hi (by rw [e]; exact hk)
   rwa [getD_set_false hne] at h⟩
 ·rintro ⟨k, hk, h⟩
  exact ⟨k, hk, by
   have hne : i ≠ k := fun e => hi (by rw [e]; exact hk)
   rwa [getD_set_false hne]⟩
def waits (md : Region.Mode) (ops : Array Oper) (K : List Nat) (i : Nat) : Bool :=
 K.all fun k => match ops[k]? with
  | some o => o.after.any fun e => Region.binds md e && e.on == i
  | none => false
theorem wpAnyG_first {i : Nat} {oi : Oper} {v : Value} (hi : ops[i]? = some oi) (hsel : ∀ (j : Nat) (o : Oper) cs b, ops[j]? = some o → o.op ≠ .select cs b)
  (hQ : ∀ c a w, Q (.panic c) (a.put oi.dst v) w → Q (.panic c) a w) (hK : i ∉ K) (hwt : waits md ops K i = true) :
  ∀ (n : Nat) (listed : Array Bool) (a : Act) (w : World),
   (∀ j oj, ops[j]? = some oj → j ≠ i → listed.getD j true = false → (∀ e ∈ oj.after, Region.binds md e = true → e.on ≠ i) → oi.apart ops oj = true) →
   i ∈ Region.ready md ops listed → YieldsIf P ops F oi v a → late K listed = false → F w →
   wpAnyG P md ops Q K F n (listed.setIfInBounds i true) (a.put oi.dst v) w → wpAnyG P md ops Q K F (n + 1) listed a w := by
 intro n
 induction n with
 | zero =>
  intro listed a w _ hr hy _ hS H
  refine ⟨fun h => (by rw [h] at hr; cases hr), fun j hj => ?_⟩
  by_cases hji : j = i
  ·subst hji
   exact hy.wpOp hi hS ⟨.inr hS, H⟩
  ·have hm := ready_mono hj hji
   rw [H.1] at hm
   cases hm
 | succ n ih =>
  intro listed a w hfree hr hy hlate hS H
  refine ⟨fun h => (by rw [h] at hr; cases hr), fun j hj => ?_⟩
  by_cases hji : j = i
  ·subst hji
   exact hy.wpOp hi hS ⟨.inr hS, H⟩
  ·have hin := H.2 j (ready_mono hj hji)
   obtain ⟨hjun, oj, hoj, hall⟩ := mem_ready.1 hj
   have hnot : ∀ e ∈ oj.after, Region.binds md e = true → e.on ≠ i := fun e he hb heq => by
    have hd := hall e he hb
    have h0 := (mem_ready.1 hr).1
    rw [heq] at hd
    rcases Nat.lt_or_ge i listed.size with hlt | hge
    ·simp [hlt] at h0 hd; rw [h0] at hd; cases hd
    ·simp [Array.getElem?_eq_none hge] at hd
   have hjK : j ∉ K := fun hjK => by
    have := List.all_eq_true.1 hwt j hjK
    rw [hoj] at this
    obtain ⟨e, he, hbe⟩ := Array.any_eq_true'.1 this
    simp only [Bool.and_eq_true, beq_iff_eq] at hbe
    exact hnot e he hbe.1 hbe.2
   have hput := wpOp_putIf hoj (hfree j oj hoj hji hjun hnot) (fun cs b => hsel i oi cs b hi) (fun cs b => hsel j oj cs b hoj) hQ hy hin
   have hl1 : late K (listed.setIfInBounds j true) = false := by rw [late_set hjK, hlate]
   have hfree' : ∀ k ok, ops[k]? = some ok → k ≠ i → (listed.setIfInBounds j true).getD k true = false →
     (∀ e ∈ ok.after, Region.binds md e = true → e.on ≠ i) → oi.apart ops ok = true := fun k ok hk hki hun hno => by
    refine hfree k ok hk hki ?_ hno
    by_cases hjk : j = k
    ·subst hjk; exact hjun
    ·rw [getD_set_ne true hjk] at hun; exact hun
   refine wpOp_mono (fun a' w' h3 => ?_) hput
   have hF : F w' := by
    rcases h3.2.1 with h | h
    ·rw [late_set hjK, late_set hK, hlate] at h; cases h
    ·exact h
   refine ⟨.inr hF, ih (listed.setIfInBounds j true) a' w' hfree' (ready_mono hr (Ne.symm hji)) h3.1 hl1 hF ?_⟩
   rw [Array.setIfInBounds_comm _ _ hji]
   exact h3.2.2
theorem wpAnyG_take {i : Nat} {oi : Oper} {v : Value} {n : Nat} {listed : Array Bool} {a : Act} {w : World} (hi : ops[i]? = some oi)
  (hs : Region.noSelect ops = true) (hf : Region.free md ops listed i = true) (hr : (Region.ready md ops listed).contains i = true)
  (hk : (K.contains i || !waits md ops K i || late K listed) = false)
  (hQ : ∀ c a w, Q (.panic c) (a.put oi.dst v) w → Q (.panic c) a w) (hy : YieldsIf P ops F oi v a) (hS : F w)
  (h : wpAnyG P md ops Q K F n (listed.setIfInBounds i true) (a.put oi.dst v) w) : wpAnyG P md ops Q K F (n + 1) listed a w := by
 simp only [Bool.or_eq_false_iff, Bool.not_eq_false'] at hk
 exact wpAnyG_first hi (Region.noSelect_spec hs) hQ (fun hm => by have := hk.1.1; simp [hm] at this) hk.1.2 n listed a w (Region.free_spec hi hf) (by simpa using hr) hy hk.2 hS h
theorem wpAnyG_of_held {n : Nat} : ∀ {listed : Array Bool} {a : Act} {w : World}, wpAnyH P md ops Q F n listed a w → wpAnyG P md ops Q K F n listed a w := by
 induction n with
 | zero => exact fun h => h
 | succ n ih => exact fun h => ⟨h.1, fun i hi => wpOp_mono (fun a' w' h' => ⟨.inr h'.1, ih h'.2⟩) (h.2 i hi)⟩
def AllG (P : Program) (md : Region.Mode) (ops : Array Oper) (Q : Exit → Act → World → Prop) (K : List Nat) (F : World → Prop) (n : Nat) (listed : Array Bool) (a : Act) (w : World) (rs : List Nat) : Prop :=
 ∀ i ∈ rs, wpOp P ops Q i (fun a' w' => (late K (listed.setIfInBounds i true) = true ∨ F w') ∧ wpAnyG P md ops Q K F n (listed.setIfInBounds i true) a' w') a w
theorem AllG.nil {n : Nat} {listed : Array Bool} {a : Act} {w : World} : AllG P md ops Q K F n listed a w [] := fun _ h => by cases h
theorem AllG.cons {n : Nat} {listed : Array Bool} {a : Act} {w : World} {i : Nat} {o : Oper} {rs : List Nat} (ho : ops[i]? = some o)
  (h : ∀ K' : Act → World → Prop, Shut (∀ a w, (late K (listed.setIfInBounds i true) = true ∨ F w) → wpAnyG P md ops Q K F n (listed.setIfInBounds i true) a w → K' a w) →
   if Region.wanted o (yielded ops a.tmps) = true then Oper.wp P o a w K' Q else K' (a.put o.dst undef) w)
  (hs : AllG P md ops Q K F n listed a w rs) : AllG P md ops Q K F n listed a w (i :: rs) := fun j hj => by
 rcases List.mem_cons.1 hj with rfl | hj
 ·exact wpOp_step ho (fun K' hK => h K' (fun a w hS hW => hK a w ⟨hS, hW⟩))
 ·exact hs j hj
theorem wpAnyG_ready {rs : List Nat} {n : Nat} {listed : Array Bool} {a : Act} {w : World} (hr : Region.ready md ops listed = rs) (hne : rs ≠ [])
  (h : AllG P md ops Q K F n listed a w rs) : wpAnyG P md ops Q K F (n + 1) listed a w :=
 ⟨fun h0 => absurd (hr ▸ h0) hne, hr ▸ h⟩
theorem wpAnyG_done {listed : Array Bool} {a : Act} {w : World} (hr : Region.ready md ops listed = []) (h : Q .normal a w) :
  ∀ n, wpAnyG P md ops Q K F n listed a w
 | 0 => ⟨hr, h⟩
 | _ + 1 => ⟨fun _ => h, by rw [hr]; simp⟩
theorem wp_regionG {id : Nat} {a : Act} {w : World} (hm : P.follows .mixedOrders = true)
  (h : wpAnyG P .any ops Q K F ops.size (Array.replicate ops.size false) a w.drew) : (Code.region id ops true).wp P Q a w :=
 wp_region_any hm (wpAny_ofG _ _ _ _ h)
theorem wpAnyG_plain {i : Nat} {oi : Oper} {v : Value} (hi : ops[i]? = some oi) (hsel : ∀ (j : Nat) (o : Oper) cs b, ops[j]? = some o → o.op ≠ .select cs b)
  (hQ : ∀ c a w, Q (.panic c) (a.put oi.dst v) w → Q (.panic c) a w) (hK : i ∉ K) :
  ∀ (n : Nat) (listed : Array Bool) (a : Act) (w : World),
   (∀ j oj, ops[j]? = some oj → j ≠ i → listed.getD j true = false → (∀ e ∈ oj.after, Region.binds md e = true → e.on ≠ i) → oi.apart ops oj = true) →
   i ∈ Region.ready md ops listed → YieldsIf P ops (fun _ => True) oi v a → (late K listed = true ∨ F w) →
   wpAnyG P md ops Q K F n (listed.setIfInBounds i true) (a.put oi.dst v) w → wpAnyG P md ops Q K F (n + 1) listed a w := by
 intro n
 induction n with
 | zero =>
  intro listed a w _ hr hy hS H
  refine ⟨fun h => (by rw [h] at hr; cases hr), fun j hj => ?_⟩
  by_cases hji : j = i
  ·subst hji
   exact hy.wpOp hi trivial ⟨by rw [late_set hK]; exact hS, H⟩
  ·have hm := ready_mono hj hji
   rw [H.1] at hm
   cases hm
 | succ n ih =>
  intro listed a w hfree hr hy hS H
  refine ⟨fun h => (by rw [h] at hr; cases hr), fun j hj => ?_⟩
  by_cases hji : j = i
  ·subst hji
   exact hy.wpOp hi trivial ⟨by rw [late_set hK]; exact hS, H⟩
  ·have hin := H.2 j (ready_mono hj hji)
   obtain ⟨hjun, oj, hoj, hall⟩ := mem_ready.1 hj
   have hnot : ∀ e ∈ oj.after, Region.binds md e = true → e.on ≠ i := fun e he hb heq => by
    have hd := hall e he hb
    have h0 := (mem_ready.1 hr).1
    rw [heq] at hd
    rcases Nat.lt_or_ge i listed.size with hlt | hge
    ·simp [hlt] at h0 hd; rw [h0] at hd; cases hd
    ·simp [Array.getElem?_eq_none hge] at hd
   have hput := wpOp_putIf hoj (hfree j oj hoj hji hjun hnot) (fun cs b => hsel i oi cs b hi) (fun cs b => hsel j oj cs b hoj) hQ hy hin
   have hfree' : ∀ k ok, ops[k]? = some ok → k ≠ i → (listed.setIfInBounds j true).getD k true = false →
     (∀ e ∈ ok.after, Region.binds md e = true → e.on ≠ i) → oi.apart ops ok = true := fun k ok hk hki hun hno => by
    refine hfree k ok hk hki ?_ hno
    by_cases hjk : j = k
    ·subst hjk; exact hjun
    ·rw [getD_set_ne true hjk] at hun; exact hun
   refine wpOp_mono (fun a' w' h3 => ?_) hput
   have hF : late K (listed.setIfInBounds j true) = true ∨ F w' := by
    rcases h3.2.1 with h | h
    ·rw [Array.setIfInBounds_comm _ _ (Ne.symm hji), late_set hK] at h; exact .inl h
    ·exact .inr h
   refine ⟨hF, ih (listed.setIfInBounds j true) a' w' hfree' (ready_mono hr (Ne.symm hji)) h3.1 hF ?_⟩
   rw [Array.setIfInBounds_comm _ _ hji]
   exact h3.2.2
theorem wpAnyG_addr {i : Nat} {oi : Oper} {v : Value} {n : Nat} {listed : Array Bool} {a : Act} {w : World} (hi : ops[i]? = some oi)
  (hs : Region.noSelect ops = true) (hf : Region.free md ops listed i = true) (hr : (Region.ready md ops listed).contains i = true) (hk : K.contains i = false)
  (hQ : ∀ c a w, Q (.panic c) (a.put oi.dst v) w → Q (.panic c) a w) (hy : YieldsIf P ops (fun _ => True) oi v a) (hS : late K listed = true ∨ F w)
  (h : wpAnyG P md ops Q K F n (listed.setIfInBounds i true) (a.put oi.dst v) w) : wpAnyG P md ops Q K F (n + 1) listed a w :=
 wpAnyG_plain hi (Region.noSelect_spec hs) hQ (fun hm => by simp [hm] at hk) n listed a w (Region.free_spec hi hf) (by simpa using hr) hy hS h
end
end
end Go.Proofs.YtfgjiidbafdndaaGreatDoor
namespace Go.Proofs.YtfgjiidbafdndaaGreatDoor
open Go.RowKit
set_option maxHeartbeats 4000000
set_option maxRecDepth 100000
def RClonedPost (t : ResD) (w : World) (e : Ending) (w' : World) : Prop :=
 ∃ cs, e = .returned (.agg cs.toArray) ∧ Below w.heap.size w w' ∧ ResR (fun b => w.heap.size ≤ b ∧ b < w'.heap.size) w' t cs
def RClonedInv (subs : List ResD) (rows : List (List Value)) (n B : Nat) (v : Value) (W0 : World) (i : Value) (W : World) : Prop :=
 ∃ (k : Nat) (news : List (List Value)), i = .int .i64 k ∧ news.length = k ∧ k ≤ n ∧ RessR (fun b => W0.heap.size ≤ b ∧ b < W.heap.size) W (subs.take k) news ∧
  W.ownsRow B 40 22 v n (news.flatten ++ (rows.drop k).flatten) ∧ Below B W0 W
abbrev ZD60 (x0 : ResF) (x1 : Option Addr) (x2 x3 : Nat) (x4 : Option Addr) (x5 x6 : Nat) (x7 : Option Addr) (x8 x9 : Nat) (x10 : Option Addr) (x11 x12 : Nat) (x13 : Option Addr) (x14 x15 : Nat) : Obj := (.cells #[.int .i32 x0.type, .int .i32 x0.code, .string x0.path, .int .i64 x0.czxid, .int .i64 x0.mzxid, .int .i64 x0.ctime, .int .i64 x0.mtime, .int .i32 x0.version, .int .i32 x0.cversion, .int .i32 x0.aversion, .int .i64 x0.owner, .int .i32 x0.dlen, .int .i32 x0.nkids, .int .i64 x0.pzxid, .slice x1 x2 x3, .slice x4 x5 x6, .slice x7 x8 x9, .int .i32 x0.count, .int .i64 x0.sid, .int .i32 x0.timeout, .slice x10 x11 x12, .slice x13 x14 x15] 40)
abbrev ZD61 : Obj := (.cells #[.int .i32 0, .int .i32 0, .string ⟨#[]⟩, .int .i64 0, .int .i64 0, .int .i64 0, .int .i64 0, .int .i32 0, .int .i32 0, .int .i32 0, .int .i64 0, .int .i32 0, .int .i32 0, .int .i64 0, .slice none 0 0, .slice none 0 0, .slice none 0 0, .int .i32 0, .int .i64 0, .int .i32 0, .slice none 0 0, .slice none 0 0] 40)
theorem rcloned_step (N : Nat) (ih : ∀ (t : ResD) (A : Nat → Prop) (cs : List Value) (w : World), SizeOf.sizeOf t < N → ResOk t → ResR A w t cs → (∀ b, A b → b < w.heap.size) → Calls Tryz.prog 31 #[.agg cs.toArray] w (RClonedPost t w))
  (f : ResF) (subs : List ResD) (hN : SizeOf.sizeOf (ResD.mk f subs) < N + 1) (hok : ResOk (.mk f subs)) (A : Nat → Prop) (vd va vp vi vs : Value) (rows : List (List Value)) (w : World) (hA : ∀ b, A b → b < w.heap.size)
  (h1 : SlR A w 1 vd (f.data.map byteCells)) (h2 : SlR A w 3 va (f.acl.map AclD.cells)) (h3 : SlR A w 1 vp (f.names.map strCells)) (h4 : SlR A w 2 vi (f.ids.map IdD.cells)) (h5 : SlR A w 22 vs rows) (h6 : RessR A w subs rows) :
  Calls Tryz.prog 31 #[.agg (f.cells vd va vp vi vs).toArray] w (RClonedPost (.mk f subs) w) := by
 rw [ResOk] at hok
 obtain ⟨hf, hsl, hso⟩ := hok
 have s1 : (f.data.map byteCells).length ≤ 1048576 := by simpa using hf.data
 have s2 : (f.acl.map AclD.cells).length ≤ 1048576 := by simpa using hf.acl
 have s3 : (f.names.map strCells).length ≤ 1048576 := by simpa using hf.names
 have s4 : (f.ids.map IdD.cells).length ≤ 1048576 := by simpa using hf.ids
 have s5 : rows.length ≤ 1048576 := by rw [h6.len]; exact hsl
 obtain ⟨ad, nd, cd, rfl⟩ := h1.slice
 obtain ⟨aa, na, ca, rfl⟩ := h2.slice
 obtain ⟨ap, np, cp, rfl⟩ := h3.slice
 obtain ⟨ai, ni, ci, rfl⟩ := h4.slice
 obtain ⟨asb, ns, csb, rfl⟩ := h5.slice
 unfold ResF.cells
 go_enter Tryz.func31, Tryz.ntmps31
 go_wp2_with fail
 have bb0 : Below w.heap.size w ((w.alloc (ZD60 f ad nd cd aa na ca ap np cp ai ni ci asb ns csb)).alloc ZD61) := ((Below.refl w.heap.size w).alloc (Nat.le_refl _) _).alloc (by simp) _
 have hg0 := box_at w (ZD60 f ad nd cd aa na ca ap np cp ai ni ci asb ns csb) ZD61
 have sz0 : w.heap.size + 2 ≤ ((w.alloc (ZD60 f ad nd cd aa na ca ap np cp ai ni ci asb ns csb)).alloc ZD61).heap.size := by simp
 have hz0 : ((w.alloc (ZD60 f ad nd cd aa na ca ap np cp ai ni ci asb ns csb)).alloc ZD61).heap[w.heap.size + 1]? = some ZD61 := heap_alloc2_new w _ _
 generalize ((w.alloc (ZD60 f ad nd cd aa na ca ap np cp ai ni ci asb ns csb)).alloc ZD61) = W0 at *
 refine wp_regionG (K := [14, 16, 18, 21]) (F := fun w' => w'.cell? ⟨w.heap.size, 14, none⟩ = some (.slice ad nd cd) ∧ w'.cell? ⟨w.heap.size, 15, none⟩ = some (.slice aa na ca) ∧ w'.cell? ⟨w.heap.size, 16, none⟩ = some (.slice ap np cp) ∧ w'.cell? ⟨w.heap.size, 20, none⟩ = some (.slice ai ni ci)) (by kernel_rfl) ?_
 replace bb0 := bb0.drew
 have hg0 : W0.drew.heap[w.heap.size]? = some (ZD60 f ad nd cd aa na ca ap np cp ai ni ci asb ns csb) := hg0
 have hz0 : W0.drew.heap[w.heap.size + 1]? = some ZD61 := hz0
 have sz0 : w.heap.size + 2 ≤ W0.drew.heap.size := sz0
 generalize W0.drew = W1 at *
 have hF := And.intro (st_at hg0 (k := 14) (v := .slice ad nd cd) rfl) (And.intro (st_at hg0 (k := 15) (v := .slice aa na ca) rfl) (And.intro (st_at hg0 (k := 16) (v := .slice ap np cp) rfl) (st_at hg0 (k := 20) (v := .slice ai ni ci) rfl)))
 refine wpAnyG_take (i := 0) (oi := { dst := some 4, op := Op.fieldAddr 40 (Operand.tmp 1) 4, type := 0, pos := _, after := #[], guard := none }) (v := .pointer (some ⟨w.heap.size, 14, none⟩)) rfl (by kernel_rfl) (by kernel_rfl) (by kernel_rfl) (by kernel_rfl) (fun _ _ _ h => h) (Or.inl ⟨by rfl, fun w hSw => by go_simp⟩) hF ?_
 simp only [Act.put, List.setIfInBounds_toArray]
 refine wpAnyG_take (i := 1) (oi := { dst := some 5, op := Op.load 22 (Operand.tmp 4), type := 22, pos := _, after := #[{ on := 0, ground := Ground.data }], guard := none }) (v := .slice ad nd cd) rfl (by kernel_rfl) (by kernel_rfl) (by kernel_rfl) (by kernel_rfl) (fun _ _ _ h => h) (Or.inl ⟨by rfl, fun w hSw => by obtain ⟨hs1, hs2, hs3, hs4⟩ := hSw; go_simp⟩) hF ?_
 simp only [Act.put, List.setIfInBounds_toArray]
 refine wpAnyG_take (i := 3) (oi := { dst := some 7, op := Op.fieldAddr 40 (Operand.tmp 1) 5, type := 0, pos := _, after := #[], guard := none }) (v := .pointer (some ⟨w.heap.size, 15, none⟩)) rfl (by kernel_rfl) (by kernel_rfl) (by kernel_rfl) (by kernel_rfl) (fun _ _ _ h => h) (Or.inl ⟨by rfl, fun w hSw => by go_simp⟩) hF ?_
 simp only [Act.put, List.setIfInBounds_toArray]
 refine wpAnyG_take (i := 4) (oi := { dst := some 8, op := Op.load 23 (Operand.tmp 7), type := 23, pos := _, after := #[{ on := 3, ground := Ground.data }], guard := none }) (v := .slice aa na ca) rfl (by kernel_rfl) (by kernel_rfl) (by kernel_rfl) (by kernel_rfl) (fun _ _ _ h => h) (Or.inl ⟨by rfl, fun w hSw => by obtain ⟨hs1, hs2, hs3, hs4⟩ := hSw; go_simp⟩) hF ?_
 simp only [Act.put, List.setIfInBounds_toArray]
 refine wpAnyG_take (i := 6) (oi := { dst := some 10, op := Op.fieldAddr 40 (Operand.tmp 1) 6, type := 0, pos := _, after := #[], guard := none }) (v := .pointer (some ⟨w.heap.size, 16, none⟩)) rfl (by kernel_rfl) (by kernel_rfl) (by kernel_rfl) (by kernel_rfl) (fun _ _ _ h => h) (Or.inl ⟨by rfl, fun w hSw => by go_simp⟩) hF ?_
 simp only [Act.put, List.setIfInBounds_toArray]
 refine wpAnyG_take (i := 7) (oi := { dst := some 11, op := Op.load 29 (Operand.tmp 10), type := 29, pos := _, after := #[{ on := 6, ground := Ground.data }], guard := none }) (v := .slice ap np cp) rfl (by kernel_rfl) (by kernel_rfl) (by kernel_rfl) (by kernel_rfl) (fun _ _ _ h => h) (Or.inl ⟨by rfl, fun w hSw => by obtain ⟨hs1, hs2, hs3, hs4⟩ := hSw; go_simp⟩) hF ?_
 simp only [Act.put, List.setIfInBounds_toArray]
 refine wpAnyG_take (i := 9) (oi := { dst := some 13, op := Op.fieldAddr 40 (Operand.tmp 1) 8, type := 0, pos := _, after := #[], guard := none }) (v := .pointer (some ⟨w.heap.size, 18, none⟩)) rfl (by kernel_rfl) (by kernel_rfl) (by kernel_rfl) (by kernel_rfl) (fun _ _ _ h => h) (Or.inl ⟨by rfl, fun w hSw => by go_simp⟩) hF ?_
 simp only [Act.put, List.setIfInBounds_toArray]
 refine wpAnyG_take (i := 10) (oi := { dst := some 14, op := Op.fieldAddr 28 (Operand.tmp 13) 2, type := 0, pos := _, after := #[{ on := 9, ground := Ground.data }], guard := none }) (v := .pointer (some ⟨w.heap.size, 20, none⟩)) rfl (by kernel_rfl) (by kernel_rfl) (by kernel_rfl) (by kernel_rfl) (fun _ _ _ h => h) (Or.inl ⟨by rfl, fun w hSw => by go_simp⟩) hF ?_
 simp only [Act.put, List.setIfInBounds_toArray]
 refine wpAnyG_take (i := 11) (oi := { dst := some 15, op := Op.load 26 (Operand.tmp 14), type := 26, pos := _, after := #[{ on := 10, ground := Ground.data }], guard := none }) (v := .slice ai ni ci) rfl (by kernel_rfl) (by kernel_rfl) (by kernel_rfl) (by kernel_rfl) (fun _ _ _ h => h) (Or.inl ⟨by rfl, fun w hSw => by obtain ⟨hs1, hs2, hs3, hs4⟩ := hSw; go_simp⟩) hF ?_
 simp only [Act.put, List.setIfInBounds_toArray]
 refine wpAnyG_ready (rs := [2]) (by kernel_rfl) (by simp) ?_
 refine AllG.cons (o := { dst := some 6, op := Op.call { callee := Callee.value (Operand.func 60), args := #[Operand.tmp 5], argTypes := #[22] }, type := 22, pos := _, after := #[{ on := 1, ground := Ground.data }], guard := none }) rfl (fun K' hK' => ?_) AllG.nil
 go_simp
 refine (cloneByte_any A _ _ _ (h1.below hA bb0) (one_bytes _) s1).mono ?_
 rintro e v1w ⟨v1, rfl, hb1, hs1, _⟩
 obtain ⟨a1, n1, c1, rfl⟩ := hs1.slice
 have hg1 := (hb1.block w.heap.size (by omega)).trans hg0
 have hz1 := (hb1.block (w.heap.size + 1) (by omega)).trans hz0
 have bb1 := bb0.trans (hb1.mono (by omega))
 have sz1 := Nat.le_trans sz0 hb1.size
 have hF1 := And.intro (st_at hg1 (k := 14) (v := .slice ad nd cd) rfl) (And.intro (st_at hg1 (k := 15) (v := .slice aa na ca) rfl) (And.intro (st_at hg1 (k := 16) (v := .slice ap np cp) rfl) (st_at hg1 (k := 20) (v := .slice ai ni ci) rfl)))
 replace hs1 := hs1.mono (B := fun b => w.heap.size + 2 ≤ b ∧ b < v1w.heap.size) (fun b hb => ⟨by omega, hb.2⟩)
 refine hK'.out _ _ (.inr hF1) ?_
 clear hK' K' hb1
 refine wpAnyG_take (i := 13) (oi := { dst := some 17, op := Op.fieldAddr 40 (Operand.tmp 1) 4, type := 0, pos := _, after := #[{ on := 0, ground := Ground.phase }, { on := 1, ground := Ground.phase }, { on := 2, ground := Ground.phase }, { on := 3, ground := Ground.phase }, { on := 4, ground := Ground.phase }, { on := 5, ground := Ground.textOnly Departure.lateStoresUnsure }, { on := 6, ground := Ground.phase }, { on := 7, ground := Ground.phase }, { on := 8, ground := Ground.textOnly Departure.lateStoresUnsure }, { on := 9, ground := Ground.phase }, { on := 10, ground := Ground.phase }, { on := 11, ground := Ground.phase }, { on := 12, ground := Ground.textOnly Departure.lateStoresUnsure }], guard := none }) (v := .pointer (some ⟨w.heap.size, 14, none⟩)) rfl (by kernel_rfl) (by kernel_rfl) (by kernel_rfl) (by kernel_rfl) (fun _ _ _ h => h) (Or.inl ⟨by rfl, fun w hSw => by go_simp⟩) hF1 ?_
 simp only [Act.put, List.setIfInBounds_toArray]
 refine wpAnyG_ready (rs := [5]) (by kernel_rfl) (by simp) ?_
 refine AllG.cons (o := { dst := some 9, op := Op.call { callee := Callee.value (Operand.func 56), args := #[Operand.tmp 8], argTypes := #[23] }, type := 23, pos := _, after := #[{ on := 4, ground := Ground.data }, { on := 2, ground := Ground.chain }], guard := none }) rfl (fun K' hK' => ?_) AllG.nil
 go_simp
 refine (cloneAcl_any A _ _ _ (h2.below hA bb1) (one_acls _) s2).mono ?_
 rintro e v2w ⟨v2, rfl, hb2, hs2, _⟩
 obtain ⟨a2, n2, c2, rfl⟩ := hs2.slice
 have hg2 := (hb2.block w.heap.size (by omega)).trans hg1
 have hz2 := (hb2.block (w.heap.size + 1) (by omega)).trans hz1
 have bb2 := bb1.trans (hb2.mono (by omega))
 have sz2 := Nat.le_trans sz1 hb2.size
 have hF2 := And.intro (st_at hg2 (k := 14) (v := .slice ad nd cd) rfl) (And.intro (st_at hg2 (k := 15) (v := .slice aa na ca) rfl) (And.intro (st_at hg2 (k := 16) (v := .slice ap np cp) rfl) (st_at hg2 (k := 20) (v := .slice ai ni ci) rfl)))
 replace hs1 := (hs1.kept fun b hb => hb2.block b hb.2).mono (B := fun b => w.heap.size + 2 ≤ b ∧ b < v2w.heap.size) (fun b hb => ⟨hb.1, by have := hb2.size; omega⟩)
 replace hs2 := hs2.mono (B := fun b => w.heap.size + 2 ≤ b ∧ b < v2w.heap.size) (fun b hb => ⟨by omega, hb.2⟩)
 refine hK'.out _ _ (.inr hF2) ?_
 clear hK' K' hb2
 refine wpAnyG_ready (rs := [8]) (by kernel_rfl) (by simp) ?_
 refine AllG.cons (o := { dst := some 12, op := Op.call { callee := Callee.value (Operand.func 58), args := #[Operand.tmp 11], argTypes := #[29] }, type := 29, pos := _, after := #[{ on := 7, ground := Ground.data }, { on := 5, ground := Ground.chain }], guard := none }) rfl (fun K' hK' => ?_) AllG.nil
 go_simp
 refine (cloneStr_any A _ _ _ (h3.below hA bb2) (one_strs _) s3).mono ?_
 rintro e v3w ⟨v3, rfl, hb3, hs3, _⟩
 obtain ⟨a3, n3, c3, rfl⟩ := hs3.slice
 have hg3 := (hb3.block w.heap.size (by omega)).trans hg2
 have hz3 := (hb3.block (w.heap.size + 1) (by omega)).trans hz2
 have bb3 := bb2.trans (hb3.mono (by omega))
 have sz3 := Nat.le_trans sz2 hb3.size
 have hF3 := And.intro (st_at hg3 (k := 14) (v := .slice ad nd cd) rfl) (And.intro (st_at hg3 (k := 15) (v := .slice aa na ca) rfl) (And.intro (st_at hg3 (k := 16) (v := .slice ap np cp) rfl) (st_at hg3 (k := 20) (v := .slice ai ni ci) rfl)))
 replace hs1 := (hs1.kept fun b hb => hb3.block b hb.2).mono (B := fun b => w.heap.size + 2 ≤ b ∧ b < v3w.heap.size) (fun b hb => ⟨hb.1, by have := hb3.size; omega⟩)
 replace hs2 := (hs2.kept fun b hb => hb3.block b hb.2).mono (B := fun b => w.heap.size + 2 ≤ b ∧ b < v3w.heap.size) (fun b hb => ⟨hb.1, by have := hb3.size; omega⟩)
 replace hs3 := hs3.mono (B := fun b => w.heap.size + 2 ≤ b ∧ b < v3w.heap.size) (fun b hb => ⟨by omega, hb.2⟩)
 refine hK'.out _ _ (.inr hF3) ?_
 clear hK' K' hb3
 refine wpAnyG_ready (rs := [12]) (by kernel_rfl) (by simp) ?_
 refine AllG.cons (o := { dst := some 16, op := Op.call { callee := Callee.value (Operand.func 57), args := #[Operand.tmp 15], argTypes := #[26] }, type := 26, pos := _, after := #[{ on := 11, ground := Ground.data }, { on := 8, ground := Ground.chain }], guard := none }) rfl (fun K' hK' => ?_) AllG.nil
 go_simp
 refine (cloneId_any A _ _ _ (h4.below hA bb3) (one_ids _) s4).mono ?_
 rintro e v4w ⟨v4, rfl, hb4, hs4, _⟩
 obtain ⟨a4, n4, c4, rfl⟩ := hs4.slice
 have hg4 := (hb4.block w.heap.size (by omega)).trans hg3
 have hz4 := (hb4.block (w.heap.size + 1) (by omega)).trans hz3
 have bb4 := bb3.trans (hb4.mono (by omega))
 have sz4 := Nat.le_trans sz3 hb4.size
 have hF4 := And.intro (st_at hg4 (k := 14) (v := .slice ad nd cd) rfl) (And.intro (st_at hg4 (k := 15) (v := .slice aa na ca) rfl) (And.intro (st_at hg4 (k := 16) (v := .slice ap np cp) rfl) (st_at hg4 (k := 20) (v := .slice ai ni ci) rfl)))
 replace hs1 := (hs1.kept fun b hb => hb4.block b hb.2).mono (B := fun b => w.heap.size + 2 ≤ b ∧ b < v4w.heap.size) (fun b hb => ⟨hb.1, by have := hb4.size; omega⟩)
 replace hs2 := (hs2.kept fun b hb => hb4.block b hb.2).mono (B := fun b => w.heap.size + 2 ≤ b ∧ b < v4w.heap.size) (fun b hb => ⟨hb.1, by have := hb4.size; omega⟩)
 replace hs3 := (hs3.kept fun b hb => hb4.block b hb.2).mono (B := fun b => w.heap.size + 2 ≤ b ∧ b < v4w.heap.size) (fun b hb => ⟨hb.1, by have := hb4.size; omega⟩)
 replace hs4 := hs4.mono (B := fun b => w.heap.size + 2 ≤ b ∧ b < v4w.heap.size) (fun b hb => ⟨by omega, hb.2⟩)
 refine hK'.out _ _ (.inr hF4) ?_
 clear hK' K' hb4
 have hfz1 := st_free hg4 14
 have hcz1 := st_at hg4 (k := 14) (v := .slice ad nd cd) rfl
 refine wpAnyG_ready (rs := [14]) (by kernel_rfl) (by simp) ?_
 refine AllG.cons (o := { dst := none, op := Op.store 22 (Operand.tmp 17) (Operand.tmp 6), type := 0, pos := _, after := #[{ on := 13, ground := Ground.data }, { on := 2, ground := Ground.data }, { on := 12, ground := Ground.chain }, { on := 0, ground := Ground.phase }, { on := 1, ground := Ground.phase }, { on := 2, ground := Ground.phase }, { on := 3, ground := Ground.phase }, { on := 4, ground := Ground.phase }, { on := 5, ground := Ground.textOnly Departure.lateStoresUnsure }, { on := 6, ground := Ground.phase }, { on := 7, ground := Ground.phase }, { on := 8, ground := Ground.textOnly Departure.lateStoresUnsure }, { on := 9, ground := Ground.phase }, { on := 10, ground := Ground.phase }, { on := 11, ground := Ground.phase }, { on := 12, ground := Ground.textOnly Departure.lateStoresUnsure }], guard := none }) rfl (fun K' hK' => ?_) AllG.nil
 go_simp
 refine hK'.out _ _ (.inl (by kernel_rfl)) ?_
 clear hK' K' hfz1 hcz1
 have hgs1 : (v4w.setCell ⟨w.heap.size, 14, none⟩ (.slice a1 n1 c1)).heap[w.heap.size]? = some (ZD60 f a1 n1 c1 aa na ca ap np cp ai ni ci asb ns csb) := st_set hg4 14 (.slice a1 n1 c1)
 have hzs1 := (heap_setCell_other v4w ⟨w.heap.size, 14, none⟩ (w.heap.size + 1) (.slice a1 n1 c1) (by simp)).trans hz4
 have bbs1 := bb4.setCell (p := ⟨w.heap.size, 14, none⟩) (Nat.le_refl _) (.slice a1 n1 c1)
 have szs1 : w.heap.size + 2 ≤ (v4w.setCell ⟨w.heap.size, 14, none⟩ (.slice a1 n1 c1)).heap.size := by simpa [World.setCell] using sz4
 replace hs1 := (hs1.kept (w' := (v4w.setCell ⟨w.heap.size, 14, none⟩ (.slice a1 n1 c1))) (fun b hb => heap_setCell_other v4w _ b _ (by simp; omega))).mono (B := fun b => w.heap.size + 2 ≤ b ∧ b < (v4w.setCell ⟨w.heap.size, 14, none⟩ (.slice a1 n1 c1)).heap.size) (fun b hb => ⟨hb.1, by simpa [World.setCell] using hb.2⟩)
 replace hs2 := (hs2.kept (w' := (v4w.setCell ⟨w.heap.size, 14, none⟩ (.slice a1 n1 c1))) (fun b hb => heap_setCell_other v4w _ b _ (by simp; omega))).mono (B := fun b => w.heap.size + 2 ≤ b ∧ b < (v4w.setCell ⟨w.heap.size, 14, none⟩ (.slice a1 n1 c1)).heap.size) (fun b hb => ⟨hb.1, by simpa [World.setCell] using hb.2⟩)
 replace hs3 := (hs3.kept (w' := (v4w.setCell ⟨w.heap.size, 14, none⟩ (.slice a1 n1 c1))) (fun b hb => heap_setCell_other v4w _ b _ (by simp; omega))).mono (B := fun b => w.heap.size + 2 ≤ b ∧ b < (v4w.setCell ⟨w.heap.size, 14, none⟩ (.slice a1 n1 c1)).heap.size) (fun b hb => ⟨hb.1, by simpa [World.setCell] using hb.2⟩)
 replace hs4 := (hs4.kept (w' := (v4w.setCell ⟨w.heap.size, 14, none⟩ (.slice a1 n1 c1))) (fun b hb => heap_setCell_other v4w _ b _ (by simp; omega))).mono (B := fun b => w.heap.size + 2 ≤ b ∧ b < (v4w.setCell ⟨w.heap.size, 14, none⟩ (.slice a1 n1 c1)).heap.size) (fun b hb => ⟨hb.1, by simpa [World.setCell] using hb.2⟩)
 generalize (v4w.setCell ⟨w.heap.size, 14, none⟩ (.slice a1 n1 c1)) = U1 at *
 refine wpAnyG_addr (i := 15) (oi := { dst := some 18, op := Op.fieldAddr 40 (Operand.tmp 1) 5, type := 0, pos := _, after := #[{ on := 0, ground := Ground.phase }, { on := 1, ground := Ground.phase }, { on := 2, ground := Ground.phase }, { on := 3, ground := Ground.phase }, { on := 4, ground := Ground.phase }, { on := 5, ground := Ground.phase }, { on := 6, ground := Ground.phase }, { on := 7, ground := Ground.phase }, { on := 8, ground := Ground.textOnly Departure.lateStoresUnsure }, { on := 9, ground := Ground.phase }, { on := 10, ground := Ground.phase }, { on := 11, ground := Ground.phase }, { on := 12, ground := Ground.textOnly Departure.lateStoresUnsure }, { on := 13, ground := Ground.phase }, { on := 14, ground := Ground.phase }], guard := none }) (v := .pointer (some ⟨w.heap.size, 15, none⟩)) rfl (by kernel_rfl) (by kernel_rfl) (by kernel_rfl) (by kernel_rfl) (fun _ _ _ h => h) (Or.inl ⟨by rfl, fun w _ => by go_simp⟩) (.inl (by kernel_rfl)) ?_
 simp only [Act.put, List.setIfInBounds_toArray]
 have hfz2 := st_free hgs1 15
 have hcz2 := st_at hgs1 (k := 15) (v := .slice aa na ca) rfl
 refine wpAnyG_ready (rs := [16]) (by kernel_rfl) (by simp) ?_
 refine AllG.cons (o := { dst := none, op := Op.store 23 (Operand.tmp 18) (Operand.tmp 9), type := 0, pos := _, after := #[{ on := 15, ground := Ground.data }, { on := 5, ground := Ground.data }, { on := 14, ground := Ground.chain }, { on := 0, ground := Ground.phase }, { on := 1, ground := Ground.phase }, { on := 2, ground := Ground.phase }, { on := 3, ground := Ground.phase }, { on := 4, ground := Ground.phase }, { on := 5, ground := Ground.phase }, { on := 6, ground := Ground.phase }, { on := 7, ground := Ground.phase }, { on := 8, ground := Ground.textOnly Departure.lateStoresUnsure }, { on := 9, ground := Ground.phase }, { on := 10, ground := Ground.phase }, { on := 11, ground := Ground.phase }, { on := 12, ground := Ground.textOnly Departure.lateStoresUnsure }, { on := 13, ground := Ground.phase }, { on := 14, ground := Ground.phase }], guard := none }) rfl (fun K' hK' => ?_) AllG.nil
 go_simp
 refine hK'.out _ _ (.inl (by kernel_rfl)) ?_
 clear hK' K' hfz2 hcz2
 have hgs2 : (U1.setCell ⟨w.heap.size, 15, none⟩ (.slice a2 n2 c2)).heap[w.heap.size]? = some (ZD60 f a1 n1 c1 a2 n2 c2 ap np cp ai ni ci asb ns csb) := st_set hgs1 15 (.slice a2 n2 c2)
 have hzs2 := (heap_setCell_other U1 ⟨w.heap.size, 15, none⟩ (w.heap.size + 1) (.slice a2 n2 c2) (by simp)).trans hzs1
 have bbs2 := bbs1.setCell (p := ⟨w.heap.size, 15, none⟩) (Nat.le_refl _) (.slice a2 n2 c2)
 have szs2 : w.heap.size + 2 ≤ (U1.setCell ⟨w.heap.size, 15, none⟩ (.slice a2 n2 c2)).heap.size := by simpa [World.setCell] using szs1
 replace hs1 := (hs1.kept (w' := (U1.setCell ⟨w.heap.size, 15, none⟩ (.slice a2 n2 c2))) (fun b hb => heap_setCell_other U1 _ b _ (by simp; omega))).mono (B := fun b => w.heap.size + 2 ≤ b ∧ b < (U1.setCell ⟨w.heap.size, 15, none⟩ (.slice a2 n2 c2)).heap.size) (fun b hb => ⟨hb.1, by simpa [World.setCell] using hb.2⟩)
 replace hs2 := (hs2.kept (w' := (U1.setCell ⟨w.heap.size, 15, none⟩ (.slice a2 n2 c2))) (fun b hb => heap_setCell_other U1 _ b _ (by simp; omega))).mono (B := fun b => w.heap.size + 2 ≤ b ∧ b < (U1.setCell ⟨w.heap.size, 15, none⟩ (.slice a2 n2 c2)).heap.size) (fun b hb => ⟨hb.1, by simpa [World.setCell] using hb.2⟩)
 replace hs3 := (hs3.kept (w' := (U1.setCell ⟨w.heap.size, 15, none⟩ (.slice a2 n2 c2))) (fun b hb => heap_setCell_other U1 _ b _ (by simp; omega))).mono (B := fun b => w.heap.size + 2 ≤ b ∧ b < (U1.setCell ⟨w.heap.size, 15, none⟩ (.slice a2 n2 c2)).heap.size) (fun b hb => ⟨hb.1, by simpa [World.setCell] using hb.2⟩)
 replace hs4 := (hs4.kept (w' := (U1.setCell ⟨w.heap.size, 15, none⟩ (.slice a2 n2 c2))) (fun b hb => heap_setCell_other U1 _ b _ (by simp; omega))).mono (B := fun b => w.heap.size + 2 ≤ b ∧ b < (U1.setCell ⟨w.heap.size, 15, none⟩ (.slice a2 n2 c2)).heap.size) (fun b hb => ⟨hb.1, by simpa [World.setCell] using hb.2⟩)
 generalize (U1.setCell ⟨w.heap.size, 15, none⟩ (.slice a2 n2 c2)) = U2 at *
 refine wpAnyG_addr (i := 17) (oi := { dst := some 19, op := Op.fieldAddr 40 (Operand.tmp 1) 6, type := 0, pos := _, after := #[{ on := 0, ground := Ground.phase }, { on := 1, ground := Ground.phase }, { on := 2, ground := Ground.phase }, { on := 3, ground := Ground.phase }, { on := 4, ground := Ground.phase }, { on := 5, ground := Ground.phase }, { on := 6, ground := Ground.phase }, { on := 7, ground := Ground.phase }, { on := 8, ground := Ground.phase }, { on := 9, ground := Ground.phase }, { on := 10, ground := Ground.phase }, { on := 11, ground := Ground.phase }, { on := 12, ground := Ground.textOnly Departure.lateStoresUnsure }, { on := 13, ground := Ground.phase }, { on := 14, ground := Ground.phase }, { on := 15, ground := Ground.phase }, { on := 16, ground := Ground.phase }], guard := none }) (v := .pointer (some ⟨w.heap.size, 16, none⟩)) rfl (by kernel_rfl) (by kernel_rfl) (by kernel_rfl) (by kernel_rfl) (fun _ _ _ h => h) (Or.inl ⟨by rfl, fun w _ => by go_simp⟩) (.inl (by kernel_rfl)) ?_
 simp only [Act.put, List.setIfInBounds_toArray]
 have hfz3 := st_free hgs2 16
 have hcz3 := st_at hgs2 (k := 16) (v := .slice ap np cp) rfl
 refine wpAnyG_ready (rs := [18]) (by kernel_rfl) (by simp) ?_
 refine AllG.cons (o := { dst := none, op := Op.store 29 (Operand.tmp 19) (Operand.tmp 12), type := 0, pos := _, after := #[{ on := 17, ground := Ground.data }, { on := 8, ground := Ground.data }, { on := 16, ground := Ground.chain }, { on := 0, ground := Ground.phase }, { on := 1, ground := Ground.phase }, { on := 2, ground := Ground.phase }, { on := 3, ground := Ground.phase }, { on := 4, ground := Ground.phase }, { on := 5, ground := Ground.phase }, { on := 6, ground := Ground.phase }, { on := 7, ground := Ground.phase }, { on := 8, ground := Ground.phase }, { on := 9, ground := Ground.phase }, { on := 10, ground := Ground.phase }, { on := 11, ground := Ground.phase }, { on := 12, ground := Ground.textOnly Departure.lateStoresUnsure }, { on := 13, ground := Ground.phase }, { on := 14, ground := Ground.phase }, { on := 15, ground := Ground.phase }, { on := 16, ground := Ground.phase }], guard := none }) rfl (fun K' hK' => ?_) AllG.nil
 go_simp
 refine hK'.out _ _ (.inl (by kernel_rfl)) ?_
 clear hK' K' hfz3 hcz3
 have hgs3 : (U2.setCell ⟨w.heap.size, 16, none⟩ (.slice a3 n3 c3)).heap[w.heap.size]? = some (ZD60 f a1 n1 c1 a2 n2 c2 a3 n3 c3 ai ni ci asb ns csb) := st_set hgs2 16 (.slice a3 n3 c3)
 have hzs3 := (heap_setCell_other U2 ⟨w.heap.size, 16, none⟩ (w.heap.size + 1) (.slice a3 n3 c3) (by simp)).trans hzs2
 have bbs3 := bbs2.setCell (p := ⟨w.heap.size, 16, none⟩) (Nat.le_refl _) (.slice a3 n3 c3)
 have szs3 : w.heap.size + 2 ≤ (U2.setCell ⟨w.heap.size, 16, none⟩ (.slice a3 n3 c3)).heap.size := by simpa [World.setCell] using szs2
 replace hs1 := (hs1.kept (w' := (U2.setCell ⟨w.heap.size, 16, none⟩ (.slice a3 n3 c3))) (fun b hb => heap_setCell_other U2 _ b _ (by simp; omega))).mono (B := fun b => w.heap.size + 2 ≤ b ∧ b < (U2.setCell ⟨w.heap.size, 16, none⟩ (.slice a3 n3 c3)).heap.size) (fun b hb => ⟨hb.1, by simpa [World.setCell] using hb.2⟩)
 replace hs2 := (hs2.kept (w' := (U2.setCell ⟨w.heap.size, 16, none⟩ (.slice a3 n3 c3))) (fun b hb => heap_setCell_other U2 _ b _ (by simp; omega))).mono (B := fun b => w.heap.size + 2 ≤ b ∧ b < (U2.setCell ⟨w.heap.size, 16, none⟩ (.slice a3 n3 c3)).heap.size) (fun b hb => ⟨hb.1, by simpa [World.setCell] using hb.2⟩)
 replace hs3 := (hs3.kept (w' := (U2.setCell ⟨w.heap.size, 16, none⟩ (.slice a3 n3 c3))) (fun b hb => heap_setCell_other U2 _ b _ (by simp; omega))).mono (B := fun b => w.heap.size + 2 ≤ b ∧ b < (U2.setCell ⟨w.heap.size, 16, none⟩ (.slice a3 n3 c3)).heap.size) (fun b hb => ⟨hb.1, by simpa [World.setCell] using hb.2⟩)
 replace hs4 := (hs4.kept (w' := (U2.setCell ⟨w.heap.size, 16, none⟩ (.slice a3 n3 c3))) (fun b hb => heap_setCell_other U2 _ b _ (by simp; omega))).mono (B := fun b => w.heap.size + 2 ≤ b ∧ b < (U2.setCell ⟨w.heap.size, 16, none⟩ (.slice a3 n3 c3)).heap.size) (fun b hb => ⟨hb.1, by simpa [World.setCell] using hb.2⟩)
 generalize (U2.setCell ⟨w.heap.size, 16, none⟩ (.slice a3 n3 c3)) = U3 at *
 refine wpAnyG_addr (i := 19) (oi := { dst := some 20, op := Op.fieldAddr 40 (Operand.tmp 1) 8, type := 0, pos := _, after := #[{ on := 0, ground := Ground.phase }, { on := 1, ground := Ground.phase }, { on := 2, ground := Ground.phase }, { on := 3, ground := Ground.phase }, { on := 4, ground := Ground.phase }, { on := 5, ground := Ground.phase }, { on := 6, ground := Ground.phase }, { on := 7, ground := Ground.phase }, { on := 8, ground := Ground.phase }, { on := 9, ground := Ground.phase }, { on := 10, ground := Ground.phase }, { on := 11, ground := Ground.phase }, { on := 12, ground := Ground.phase }, { on := 13, ground := Ground.phase }, { on := 14, ground := Ground.phase }, { on := 15, ground := Ground.phase }, { on := 16, ground := Ground.phase }, { on := 17, ground := Ground.phase }, { on := 18, ground := Ground.phase }], guard := none }) (v := .pointer (some ⟨w.heap.size, 18, none⟩)) rfl (by kernel_rfl) (by kernel_rfl) (by kernel_rfl) (by kernel_rfl) (fun _ _ _ h => h) (Or.inl ⟨by rfl, fun w _ => by go_simp⟩) (.inl (by kernel_rfl)) ?_
 simp only [Act.put, List.setIfInBounds_toArray]
 refine wpAnyG_addr (i := 20) (oi := { dst := some 21, op := Op.fieldAddr 28 (Operand.tmp 20) 2, type := 0, pos := _, after := #[{ on := 19, ground := Ground.data }, { on := 0, ground := Ground.phase }, { on := 1, ground := Ground.phase }, { on := 2, ground := Ground.phase }, { on := 3, ground := Ground.phase }, { on := 4, ground := Ground.phase }, { on := 5, ground := Ground.phase }, { on := 6, ground := Ground.phase }, { on := 7, ground := Ground.phase }, { on := 8, ground := Ground.phase }, { on := 9, ground := Ground.phase }, { on := 10, ground := Ground.phase }, { on := 11, ground := Ground.phase }, { on := 12, ground := Ground.phase }, { on := 13, ground := Ground.phase }, { on := 14, ground := Ground.phase }, { on := 15, ground := Ground.phase }, { on := 16, ground := Ground.phase }, { on := 17, ground := Ground.phase }, { on := 18, ground := Ground.phase }], guard := none }) (v := .pointer (some ⟨w.heap.size, 20, none⟩)) rfl (by kernel_rfl) (by kernel_rfl) (by kernel_rfl) (by kernel_rfl) (fun _ _ _ h => h) (Or.inl ⟨by rfl, fun w _ => by go_simp⟩) (.inl (by kernel_rfl)) ?_
 simp only [Act.put, List.setIfInBounds_toArray]
 have hfz4 := st_free hgs3 20
 have hcz4 := st_at hgs3 (k := 20) (v := .slice ai ni ci) rfl
 refine wpAnyG_ready (rs := [21]) (by kernel_rfl) (by simp) ?_
 refine AllG.cons (o := { dst := none, op := Op.store 26 (Operand.tmp 21) (Operand.tmp 16), type := 0, pos := _, after := #[{ on := 20, ground := Ground.data }, { on := 12, ground := Ground.data }, { on := 18, ground := Ground.chain }, { on := 0, ground := Ground.phase }, { on := 1, ground := Ground.phase }, { on := 2, ground := Ground.phase }, { on := 3, ground := Ground.phase }, { on := 4, ground := Ground.phase }, { on := 5, ground := Ground.phase }, { on := 6, ground := Ground.phase }, { on := 7, ground := Ground.phase }, { on := 8, ground := Ground.phase }, { on := 9, ground := Ground.phase }, { on := 10, ground := Ground.phase }, { on := 11, ground := Ground.phase }, { on := 12, ground := Ground.phase }, { on := 13, ground := Ground.phase }, { on := 14, ground := Ground.phase }, { on := 15, ground := Ground.phase }, { on := 16, ground := Ground.phase }, { on := 17, ground := Ground.phase }, { on := 18, ground := Ground.phase }], guard := none }) rfl (fun K' hK' => ?_) AllG.nil
 go_simp
 refine hK'.out _ _ (.inl (by kernel_rfl)) ?_
 clear hK' K' hfz4 hcz4
 have hgs4 : (U3.setCell ⟨w.heap.size, 20, none⟩ (.slice a4 n4 c4)).heap[w.heap.size]? = some (ZD60 f a1 n1 c1 a2 n2 c2 a3 n3 c3 a4 n4 c4 asb ns csb) := st_set hgs3 20 (.slice a4 n4 c4)
 have hzs4 := (heap_setCell_other U3 ⟨w.heap.size, 20, none⟩ (w.heap.size + 1) (.slice a4 n4 c4) (by simp)).trans hzs3
 have bbs4 := bbs3.setCell (p := ⟨w.heap.size, 20, none⟩) (Nat.le_refl _) (.slice a4 n4 c4)
 have szs4 : w.heap.size + 2 ≤ (U3.setCell ⟨w.heap.size, 20, none⟩ (.slice a4 n4 c4)).heap.size := by simpa [World.setCell] using szs3
 replace hs1 := (hs1.kept (w' := (U3.setCell ⟨w.heap.size, 20, none⟩ (.slice a4 n4 c4))) (fun b hb => heap_setCell_other U3 _ b _ (by simp; omega))).mono (B := fun b => w.heap.size + 2 ≤ b ∧ b < (U3.setCell ⟨w.heap.size, 20, none⟩ (.slice a4 n4 c4)).heap.size) (fun b hb => ⟨hb.1, by simpa [World.setCell] using hb.2⟩)
 replace hs2 := (hs2.kept (w' := (U3.setCell ⟨w.heap.size, 20, none⟩ (.slice a4 n4 c4))) (fun b hb => heap_setCell_other U3 _ b _ (by simp; omega))).mono (B := fun b => w.heap.size + 2 ≤ b ∧ b < (U3.setCell ⟨w.heap.size, 20, none⟩ (.slice a4 n4 c4)).heap.size) (fun b hb => ⟨hb.1, by simpa [World.setCell] using hb.2⟩)
 replace hs3 := (hs3.kept (w' := (U3.setCell ⟨w.heap.size, 20, none⟩ (.slice a4 n4 c4))) (fun b hb => heap_setCell_other U3 _ b _ (by simp; omega))).mono (B := fun b => w.heap.size + 2 ≤ b ∧ b < (U3.setCell ⟨w.heap.size, 20, none⟩ (.slice a4 n4 c4)).heap.size) (fun b hb => ⟨hb.1, by simpa [World.setCell] using hb.2⟩)
 replace hs4 := (hs4.kept (w' := (U3.setCell ⟨w.heap.size, 20, none⟩ (.slice a4 n4 c4))) (fun b hb => heap_setCell_other U3 _ b _ (by simp; omega))).mono (B := fun b => w.heap.size + 2 ≤ b ∧ b < (U3.setCell ⟨w.heap.size, 20, none⟩ (.slice a4 n4 c4)).heap.size) (fun b hb => ⟨hb.1, by simpa [World.setCell] using hb.2⟩)
 generalize (U3.setCell ⟨w.heap.size, 20, none⟩ (.slice a4 n4 c4)) = U4 at *
 refine wpAnyG_done (by kernel_rfl) ?_ _
 have hc21 := st_at hgs4 (k := 21) (v := .slice asb ns csb) rfl
 go_wp2_with fail
 refine (cloneResult_any A _ _ _ (h5.below hA bbs4) h6.one s5).mono ?_
 rintro e w5 ⟨v5, rfl, hb5, hs5, hr5⟩
 obtain ⟨a5, n5, c5, rfl⟩ := hs5.slice
 have hg5 := (hb5.block w.heap.size (by omega)).trans hgs4
 have hz5 := (hb5.block (w.heap.size + 1) (by omega)).trans hzs4
 have bb5 := bbs4.trans (hb5.mono (by omega))
 have sz5 := Nat.le_trans szs4 hb5.size
 have hf5 := st_free hg5 21
 have hc5 := st_at hg5 (k := 21) (v := .slice asb ns csb) rfl
 replace hs1 := hs1.kept (w' := w5) (fun b hb => hb5.block b hb.2)
 replace hs2 := hs2.kept (w' := w5) (fun b hb => hb5.block b hb.2)
 replace hs3 := hs3.kept (w' := w5) (fun b hb => hb5.block b hb.2)
 replace hs4 := hs4.kept (w' := w5) (fun b hb => hb5.block b hb.2)
 clear hc21
 go_wp2_with fail
 have hB5 : w.heap.size + 2 ≤ U4.heap.size := szs4
 have hB5' : U4.heap.size ≤ w5.heap.size := hb5.size
 have hn5 : rows.length = n5 := hs5.len
 have hgW : (w5.setCell ⟨w.heap.size, 21, none⟩ (.slice a5 n5 c5)).heap[w.heap.size]? = some (ZD60 f a1 n1 c1 a2 n2 c2 a3 n3 c3 a4 n4 c4 a5 n5 c5) := st_set hg5 21 (.slice a5 n5 c5)
 have hzW := (heap_setCell_other w5 ⟨w.heap.size, 21, none⟩ (w.heap.size + 1) (.slice a5 n5 c5) (by simp)).trans hz5
 have bbW := bb5.setCell (p := ⟨w.heap.size, 21, none⟩) (Nat.le_refl _) (.slice a5 n5 c5)
 have hrW := ownsRow_setCell_below hr5 (a := ⟨w.heap.size, 21, none⟩) (by show w.heap.size < _; omega) (.slice a5 n5 c5)
 rw [hn5] at hrW
 clear hs5 hr5 hf5 hc5 hb5
 have zW : (w5.setCell ⟨w.heap.size, 21, none⟩ (.slice a5 n5 c5)).heap.size = w5.heap.size := by simp [World.setCell]
 have hk6 : RessR A (w5.setCell ⟨w.heap.size, 21, none⟩ (.slice a5 n5 c5)) subs rows := h6.kept fun b hb => bbW.block b (hA b hb)
 replace hs1 := hs1.kept (w' := w5.setCell ⟨w.heap.size, 21, none⟩ (.slice a5 n5 c5)) (fun b hb => heap_setCell_other w5 _ b _ (by simp; omega))
 replace hs2 := hs2.kept (w' := w5.setCell ⟨w.heap.size, 21, none⟩ (.slice a5 n5 c5)) (fun b hb => heap_setCell_other w5 _ b _ (by simp; omega))
 replace hs3 := hs3.kept (w' := w5.setCell ⟨w.heap.size, 21, none⟩ (.slice a5 n5 c5)) (fun b hb => heap_setCell_other w5 _ b _ (by simp; omega))
 replace hs4 := hs4.kept (w' := w5.setCell ⟨w.heap.size, 21, none⟩ (.slice a5 n5 c5)) (fun b hb => heap_setCell_other w5 _ b _ (by simp; omega))
 generalize w5.setCell ⟨w.heap.size, 21, none⟩ (.slice a5 n5 c5) = WW at *
 generalize U4.heap.size = B5 at *
 go_loopw [29] (RClonedInv subs rows n5 B5 (.slice a5 n5 c5) WW) (fun i _ => n5 - (intOf i).toNat)
 case atStart => exact ⟨0, [], rfl, rfl, Nat.zero_le _, by rw [List.take_zero, RessR], by simpa using hrW, Below.refl _ _⟩
 case round =>
  obtain ⟨k, news, rfl, hl, hkn, hnews, hown, hbel⟩ := hrel
  by_cases hlt : k < n5
  ·obtain ⟨t', ht'⟩ : ∃ t, subs[k]? = some t := ⟨_, List.getElem?_eq_getElem (by have := h6.len; omega)⟩
   obtain ⟨L, hr, hR⟩ := hk6.get ht'
   have hR' : ResR A wr t' L := hR.kept fun b hb => hbel.block b (by have := hA b hb; omega)
   have hok' := hso.get ht'
   have hsz' : SizeOf.sizeOf t' < N := by have := List.sizeOf_lt_of_mem (List.mem_of_getElem? ht'); simp at hN this ⊢; omega
   have hAr : ∀ b, A b → b < wr.heap.size := fun b hb => by have := hA b hb; have := hbel.size; omega
   have hdrop : (rows.drop k).flatten = L ++ (rows.drop (k + 1)).flatten := by
    obtain ⟨hk1, hk2⟩ := List.getElem?_eq_some_iff.1 hr
    rw [List.drop_eq_getElem_cons hk1, hk2, List.flatten_cons]
   have hlenf : news.flatten.length = k * 22 := by rw [flat_length hnews.each, hl]
   rw [hdrop, ← List.append_assoc] at hown
   obtain ⟨b5, rfl⟩ : ∃ b5, a5 = some ⟨b5, 0, none⟩ := by
    rcases hown.2 with ⟨h, h'⟩ | ⟨g, cap, cur, h, _⟩
    ·omega
    ·cases h; exact ⟨_, rfl⟩
   have hL2 : L.length = 22 := hR'.length
   have hran := own_range hown
   have hthe := own_there hown
   rw [hlenf] at hran hthe
   rw [hL2] at hthe
   have hgr := (hbel.block w.heap.size (by omega)).trans hgW
   have hcell := st_at hgr (k := 21) (v := .slice (some ⟨b5, 0, none⟩) n5 c5) rfl
   go_wp2_with fail
   have hu := Tryz.underlying40
   have hi22 : (Tryz.prog.info? 40).map (·.size) = some 22 := by kernel_rfl
   have hi : (Tryz.prog.info? 40).map (·.size) = some L.length := by rw [hL2]; exact hi22
   have hb5B : B5 ≤ b5 ∧ b5 < WW.heap.size := hrW.lt b5 rfl
   refine wp_regionG (K := [10]) (F := fun w' => w'.cell? ⟨w.heap.size, 21, none⟩ = some (.slice (some ⟨b5, 0, none⟩) n5 c5) ∧ w'.rangeAt b5 (k * 22) L) (by kernel_rfl) ?_
   have hF : wr.drew.cell? ⟨w.heap.size, 21, none⟩ = some (.slice (some ⟨b5, 0, none⟩) n5 c5) ∧ wr.drew.rangeAt b5 (k * 22) L := ⟨hcell, hran⟩
   refine wpAnyG_take (i := 0) (oi := { dst := some 32, op := Op.fieldAddr 40 (Operand.tmp 1) 9, type := 0, pos := _, after := #[], guard := none }) (v := .pointer (some ⟨w.heap.size, 21, none⟩)) rfl (by kernel_rfl) (by kernel_rfl) (by kernel_rfl) (by kernel_rfl) (fun _ _ _ h => h) (Or.inl ⟨by rfl, fun w hSw => by go_simp⟩) hF ?_
   simp only [Act.put, List.setIfInBounds_toArray]
   refine wpAnyG_take (i := 1) (oi := { dst := some 33, op := Op.load 38 (Operand.tmp 32), type := 38, pos := _, after := #[{ on := 0, ground := Ground.data }], guard := none }) (v := .slice (some ⟨b5, 0, none⟩) n5 c5) rfl (by kernel_rfl) (by kernel_rfl) (by kernel_rfl) (by kernel_rfl) (fun _ _ _ h => h) (Or.inl ⟨by rfl, fun w hSw => by obtain ⟨hs1, hs2⟩ := hSw; go_simp⟩) hF ?_
   simp only [Act.put, List.setIfInBounds_toArray]
   refine wpAnyG_take (i := 2) (oi := { dst := some 34, op := Op.move (Operand.tmp 3), type := 3, pos := _, after := #[], guard := none }) (v := .int .i64 k) rfl (by kernel_rfl) (by kernel_rfl) (by kernel_rfl) (by kernel_rfl) (fun _ _ _ h => h) (Or.inl ⟨by rfl, fun w hSw => by go_simp⟩) hF ?_
   simp only [Act.put, List.setIfInBounds_toArray]
   refine wpAnyG_take (i := 3) (oi := { dst := some 35, op := Op.fieldAddr 40 (Operand.tmp 1) 9, type := 0, pos := _, after := #[], guard := none }) (v := .pointer (some ⟨w.heap.size, 21, none⟩)) rfl (by kernel_rfl) (by kernel_rfl) (by kernel_rfl) (by kernel_rfl) (fun _ _ _ h => h) (Or.inl ⟨by rfl, fun w hSw => by go_simp⟩) hF ?_
   simp only [Act.put, List.setIfInBounds_toArray]
   refine wpAnyG_take (i := 4) (oi := { dst := some 36, op := Op.load 38 (Operand.tmp 35), type := 38, pos := _, after := #[{ on := 3, ground := Ground.data }], guard := none }) (v := .slice (some ⟨b5, 0, none⟩) n5 c5) rfl (by kernel_rfl) (by kernel_rfl) (by kernel_rfl) (by kernel_rfl) (fun _ _ _ h => h) (Or.inl ⟨by rfl, fun w hSw => by obtain ⟨hs1, hs2⟩ := hSw; go_simp⟩) hF ?_
   simp only [Act.put, List.setIfInBounds_toArray]
   refine wpAnyG_take (i := 5) (oi := { dst := some 37, op := Op.move (Operand.tmp 3), type := 3, pos := _, after := #[], guard := none }) (v := .int .i64 k) rfl (by kernel_rfl) (by kernel_rfl) (by kernel_rfl) (by kernel_rfl) (fun _ _ _ h => h) (Or.inl ⟨by rfl, fun w hSw => by go_simp⟩) hF ?_
   simp only [Act.put, List.setIfInBounds_toArray]
   refine wpAnyG_take (i := 6) (oi := { dst := some 38, op := Op.indexAddr 38 (Operand.tmp 36) (Operand.tmp 37), type := 0, pos := _, after := #[{ on := 4, ground := Ground.data }, { on := 5, ground := Ground.data }], guard := none }) (v := .pointer (some ⟨b5, k * 22, none⟩)) rfl (by kernel_rfl) (by kernel_rfl) (by kernel_rfl) (by kernel_rfl) (fun _ _ _ h => h) (Or.inl ⟨by rfl, fun w hSw => by go_simp⟩) hF ?_
   simp only [Act.put, List.setIfInBounds_toArray]
   refine wpAnyG_take (i := 7) (oi := { dst := some 39, op := Op.load 40 (Operand.tmp 38), type := 40, pos := _, after := #[{ on := 6, ground := Ground.data }], guard := none }) (v := .agg L.toArray) rfl (by kernel_rfl) (by kernel_rfl) (by kernel_rfl) (by kernel_rfl) (fun _ _ _ h => h) (yieldsIf_load_mid (by rfl) 40 (.tmp 38) rfl b5 (k * 22) rfl L _ (fun w hSw => hSw.2) hu rfl hi) hF ?_
   simp only [Act.put, List.setIfInBounds_toArray]
   refine wpAnyG_ready (rs := [8]) (by kernel_rfl) (by simp) ?_
   refine AllG.cons (o := { dst := some 40, op := Op.call { callee := Callee.value (Operand.func 31), args := #[Operand.tmp 39], argTypes := #[40] }, type := 40, pos := _, after := #[{ on := 7, ground := Ground.data }], guard := none }) rfl (fun K' hK' => ?_) AllG.nil
   go_simp
   refine (ih t' A L wr.drew hsz' hok' (ResR.kept (w := wr) (w' := wr.drew) (fun _ _ => rfl) hR') hAr).mono ?_
   rintro e w6 ⟨cs2, rfl, hb6d, hQ6⟩
   have hb6 : Below wr.heap.size wr w6 := (Below.refl _ wr).drew.trans hb6d
   have hi2 : (Tryz.prog.info? 40).map (·.size) = some cs2.toArray.size := hi22.trans (by simp [hQ6.length])
   have ho2 := hQ6.one
   have hgb6 : w.heap.size < wr.heap.size := by have := hbel.size; omega
   have hb5b : b5 < wr.heap.size := by have := hbel.size; omega
   have ht6 : w6.there b5 (k * 22) 22 := there_below hthe hb6 hb5b
   have hF6 := And.intro ((hb6.cell (p := ⟨w.heap.size, 21, none⟩) hgb6).trans hcell) (range_below hran hb6 hb5b)
   refine hK'.out _ _ (.inr hF6) ?_
   clear hK' K'
   refine wpAnyG_addr (i := 9) (oi := { dst := some 41, op := Op.indexAddr 38 (Operand.tmp 33) (Operand.tmp 34), type := 0, pos := _, after := #[{ on := 1, ground := Ground.data }, { on := 2, ground := Ground.data }, { on := 0, ground := Ground.phase }, { on := 1, ground := Ground.phase }, { on := 2, ground := Ground.phase }, { on := 3, ground := Ground.phase }, { on := 4, ground := Ground.phase }, { on := 5, ground := Ground.phase }, { on := 6, ground := Ground.phase }, { on := 7, ground := Ground.phase }, { on := 8, ground := Ground.phase }], guard := none }) (v := .pointer (some ⟨b5, k * 22, none⟩)) rfl (by kernel_rfl) (by kernel_rfl) (by kernel_rfl) (by kernel_rfl) (fun _ _ _ h => h) (Or.inl ⟨by rfl, fun w _ => by go_simp⟩) (.inr hF6) ?_
   simp only [Act.put, List.setIfInBounds_toArray]
   refine wpAnyG_ready (rs := [10]) (by kernel_rfl) (by simp) ?_
   refine AllG.cons (o := { dst := none, op := Op.store 40 (Operand.tmp 41) (Operand.tmp 40), type := 0, pos := _, after := #[{ on := 9, ground := Ground.data }, { on := 8, ground := Ground.data }, { on := 8, ground := Ground.chain }, { on := 0, ground := Ground.phase }, { on := 1, ground := Ground.phase }, { on := 2, ground := Ground.phase }, { on := 3, ground := Ground.phase }, { on := 4, ground := Ground.phase }, { on := 5, ground := Ground.phase }, { on := 6, ground := Ground.phase }, { on := 7, ground := Ground.phase }, { on := 8, ground := Ground.phase }], guard := none }) rfl (fun K' hK' => ?_) AllG.nil
   rw [if_pos (by rfl)]
   refine wp_store_mid 40 (.tmp 41) (.tmp 40) rfl b5 (k * 22) cs2.toArray rfl rfl (by simpa [hQ6.length] using ht6) hi2 (all_oneCell_toArray ho2) ?_
   refine hK'.out _ _ (.inl (by kernel_rfl)) ?_
   clear hK' K'
   refine wpAnyG_done (by kernel_rfl) ?_ _
   have hown6 := own_below hown hb6 (fun k hk => by cases hk; exact hb5b)
   have hl2 : cs2.length = 22 := hQ6.length
   obtain ⟨hown7, hg7⟩ := own_setCells cs2 L hown6 (by omega)
   rw [hlenf] at hown7 hg7
   have hbr : ∀ b, b < wr.heap.size → b ≠ b5 → (w6.setCells b5 (k * 22) cs2).heap[b]? = wr.heap[b]? := fun b hb hne => by
    rw [hg7.block b (by have := hb6.size; omega) (by simpa using hne), hb6.block b (by omega)]
   have hbel7 : Below B5 WW (w6.setCells b5 (k * 22) cs2) :=
    ((hbel.trans (hb6.mono (by have := hbel.size; omega))).grown hg7 (by have := hbel.size; have := hb6.size; omega) (fun k hk => by cases hk; exact hb5B.1))
   have hsz7 : wr.heap.size ≤ w6.heap.size := hb6.size
   have hsz8 := hg7.size
   have hn7 : RessR (fun b => WW.heap.size ≤ b ∧ b < (w6.setCells b5 (k * 22) cs2).heap.size) (w6.setCells b5 (k * 22) cs2) (subs.take (k + 1)) (news ++ [cs2]) := by
    have htk : subs.take (k + 1) = subs.take k ++ [t'] := by
     obtain ⟨hk1, hk2⟩ := List.getElem?_eq_some_iff.1 ht'
     rw [List.take_succ_eq_append_getElem hk1, hk2]
    rw [htk]
    refine RessR.snoc ?_ ?_
    ·exact (hnews.kept (fun b hb => hbr b hb.2 (by omega))).mono (fun b hb => ⟨hb.1, by omega⟩)
    ·refine (hQ6.kept (fun b hb => hg7.block b hb.2 ?_)).mono (fun b hb => ⟨?_, by omega⟩)
     ·have h1 : wr.heap.size ≤ b := hb.1
      have := hbel.size
      simp only [ne_eq, Option.some.injEq]; omega
     ·have h1 : wr.heap.size ≤ b := hb.1
      have := hbel.size
      omega
   have hInv : RClonedInv subs rows n5 B5 (.slice (some ⟨b5, 0, none⟩) n5 c5) WW (.int .i64 ((k + 1 : Nat) : Int)) (w6.setCells b5 (k * 22) cs2) :=
    ⟨k + 1, news ++ [cs2], rfl, by simp [hl], by omega, hn7, by rw [List.flatten_append, List.flatten_singleton]; exact hown7, hbel7⟩
   clear hown7 hown6 hg7 hbr hbel7 hn7 ht6 hF6 hF
   rw [List.toList_toArray]
   generalize w6.setCells b5 (k * 22) cs2 = W7 at *
   have hk0 : (0 : Int) ≤ k := Int.natCast_nonneg _
   have hkb : (k : Int) + 1 ≤ 1048577 := by omega
   go_wp2_with fail
   go_roundw
   case rel => exact hInv
   case measure => simp [intOf]; omega
  ·obtain rfl : k = n5 := by omega
   have hgr := (hbel.block w.heap.size (by omega)).trans hgW
   have hzr := (hbel.block (w.heap.size + 1) (by omega)).trans hzW
   go_wp2_with (first | (with_reducible refine wpList_load_row rfl 40 (.tmp 1) rfl w.heap.size rfl 40 _ (0, 0) _ hgr Tryz.underlying40 rfl (by kernel_rfl) ?_) | (with_reducible refine wpList_store_row rfl 40 (.tmp 2) (.tmp 43) rfl (w.heap.size + 1) _ rfl rfl 40 _ hzr (by kernel_rfl) (by kernel_rfl) (by kernel_rfl) ?_))
   have hrow := setRow_heap wr (w.heap.size + 1) _ #[.int .i32 f.type, .int .i32 f.code, .string f.path, .int .i64 f.czxid, .int .i64 f.mzxid, .int .i64 f.ctime, .int .i64 f.mtime, .int .i32 f.version, .int .i32 f.cversion, .int .i32 f.aversion, .int .i64 f.owner, .int .i32 f.dlen, .int .i32 f.nkids, .int .i64 f.pzxid, .slice a1 n1 c1, .slice a2 n2 c2, .slice a3 n3 c3, .int .i32 f.count, .int .i64 f.sid, .int .i32 f.timeout, .slice a4 n4 c4, .slice a5 k c5] 40 (0, 0) hzr
   have hko : ∀ b, b ≠ w.heap.size + 1 → (wr.setRow (w.heap.size + 1) #[.int .i32 f.type, .int .i32 f.code, .string f.path, .int .i64 f.czxid, .int .i64 f.mzxid, .int .i64 f.ctime, .int .i64 f.mtime, .int .i32 f.version, .int .i32 f.cversion, .int .i32 f.aversion, .int .i64 f.owner, .int .i32 f.dlen, .int .i32 f.nkids, .int .i64 f.pzxid, .slice a1 n1 c1, .slice a2 n2 c2, .slice a3 n3 c3, .int .i32 f.count, .int .i64 f.sid, .int .i32 f.timeout, .slice a4 n4 c4, .slice a5 k c5]).heap[b]? = wr.heap[b]? := fun b hb => setRow_other wr _ b _ hb
   have hbelR := below_setRow (bbW.trans (hbel.mono (by omega))) (g := w.heap.size + 1) (by omega) #[.int .i32 f.type, .int .i32 f.code, .string f.path, .int .i64 f.czxid, .int .i64 f.mzxid, .int .i64 f.ctime, .int .i64 f.mtime, .int .i32 f.version, .int .i32 f.cversion, .int .i32 f.aversion, .int .i64 f.owner, .int .i32 f.dlen, .int .i32 f.nkids, .int .i64 f.pzxid, .slice a1 n1 c1, .slice a2 n2 c2, .slice a3 n3 c3, .int .i32 f.count, .int .i64 f.sid, .int .i32 f.timeout, .slice a4 n4 c4, .slice a5 k c5]
   have hsz := hbel.size
   have hnil : (rows.drop k).flatten = [] := by rw [List.drop_eq_nil_of_le (by omega)]; rfl
   rw [hnil, List.append_nil] at hown
   have hsub := slr_own hown hl hnews.each
   have htk : subs.take k = subs := List.take_of_length_le (by have := h6.len; omega)
   rw [htk] at hnews
   have hszR : (wr.setRow (w.heap.size + 1) #[.int .i32 f.type, .int .i32 f.code, .string f.path, .int .i64 f.czxid, .int .i64 f.mzxid, .int .i64 f.ctime, .int .i64 f.mtime, .int .i32 f.version, .int .i32 f.cversion, .int .i32 f.aversion, .int .i64 f.owner, .int .i32 f.dlen, .int .i32 f.nkids, .int .i64 f.pzxid, .slice a1 n1 c1, .slice a2 n2 c2, .slice a3 n3 c3, .int .i32 f.count, .int .i64 f.sid, .int .i32 f.timeout, .slice a4 n4 c4, .slice a5 k c5]).heap.size = wr.heap.size := setRow_size _ _ _
   refine bodyPost_ret (v := .agg #[.int .i32 f.type, .int .i32 f.code, .string f.path, .int .i64 f.czxid, .int .i64 f.mzxid, .int .i64 f.ctime, .int .i64 f.mtime, .int .i32 f.version, .int .i32 f.cversion, .int .i32 f.aversion, .int .i64 f.owner, .int .i32 f.dlen, .int .i32 f.nkids, .int .i64 f.pzxid, .slice a1 n1 c1, .slice a2 n2 c2, .slice a3 n3 c3, .int .i32 f.count, .int .i64 f.sid, .int .i32 f.timeout, .slice a4 n4 c4, .slice a5 k c5]) (results_cell_row rfl _ _ (w.heap.size + 1) 40 _ (0, 0) _ rfl hrow Tryz.underlying40 rfl (by kernel_rfl)) rfl ?_
   generalize wr.setRow (w.heap.size + 1) _ = WR at *
   refine ⟨f.cells (.slice a1 n1 c1) (.slice a2 n2 c2) (.slice a3 n3 c3) (.slice a4 n4 c4) (.slice a5 k c5), rfl, hbelR, ?_⟩
   rw [ResR]
   refine ⟨_, _, _, _, _, news, rfl, ?_, ?_, ?_, ?_, ?_, ?_⟩
   ·exact (hs1.kept fun b hb => (hko b (by omega)).trans (hbel.block b (by omega))).mono fun b hb => ⟨by omega, by omega⟩
   ·exact (hs2.kept fun b hb => (hko b (by omega)).trans (hbel.block b (by omega))).mono fun b hb => ⟨by omega, by omega⟩
   ·exact (hs3.kept fun b hb => (hko b (by omega)).trans (hbel.block b (by omega))).mono fun b hb => ⟨by omega, by omega⟩
   ·exact (hs4.kept fun b hb => (hko b (by omega)).trans (hbel.block b (by omega))).mono fun b hb => ⟨by omega, by omega⟩
   ·exact (hsub.kept fun b hb => hko b (by omega)).mono fun b hb => ⟨by omega, by omega⟩
   ·exact (hnews.kept fun b hb => hko b (by omega)).mono fun b hb => ⟨by omega, by omega⟩
theorem rcloned_all : ∀ (N : Nat) (t : ResD) (A : Nat → Prop) (cs : List Value) (w : World), SizeOf.sizeOf t < N → ResOk t → ResR A w t cs → (∀ b, A b → b < w.heap.size) → Calls Tryz.prog 31 #[.agg cs.toArray] w (RClonedPost t w)
 | 0, _, _, _, _, h, _, _, _ => absurd h (Nat.not_lt_zero _)
 | N + 1, .mk f subs, A, cs, w, hN, hok, hR, hA => by
  rw [ResR] at hR
  obtain ⟨vd, va, vi, vp, vs, rows, rfl, h1, h2, h3, h4, h5, h6⟩ := hR
  exact rcloned_step N (rcloned_all N) f subs hN hok A vd va vi vp vs rows w hA h1 h2 h3 h4 h5 h6
theorem rcloned_any (t : ResD) (A : Nat → Prop) (cs : List Value) (w : World) (hok : ResOk t) (hR : ResR A w t cs) (hA : ∀ b, A b → b < w.heap.size) : Calls Tryz.prog 31 #[.agg cs.toArray] w (RClonedPost t w) :=
 rcloned_all (SizeOf.sizeOf t + 1) t A cs w (Nat.lt_succ_self _) hok hR hA
end Go.Proofs.YtfgjiidbafdndaaGreatDoor
namespace Go.Proofs.YtfgjiidbafdndaaGreatDoor
open Go.RowKit Go.Deep
section
def bulk {H : Type} (d : DataW H) : Nat := Rows.uptoBulk d
def bulks {H : Type} (l : List (DataW H)) : Nat := Rows.uptoBulkAll l
theorem bulk_agg {H : Type} (l : List (DataW H)) : bulk (.agg l) = bulks l + 1 := by simp [bulk, bulks, Rows.uptoBulk]
theorem bulk_slice {H : Type} (l s : List (DataW H)) : bulk (.slice l s) = bulks l + bulks s + 1 := by simp [bulk, bulks, Rows.uptoBulk]
theorem bulks_nil {H : Type} : bulks ([] : List (DataW H)) = 0 := by simp [bulks, Rows.uptoBulkAll]
theorem bulks_cons {H : Type} (d : DataW H) (l : List (DataW H)) : bulks (d :: l) = bulk d + bulks l := by simp [bulk, bulks, Rows.uptoBulkAll]
theorem bulk_str {H : Type} (s : ByteArray) : bulk (.lit (.string s.data.toList) : DataW H) = s.size + 1 := by
 simp [bulk, Rows.uptoBulk]
theorem bulk_pos {H : Type} (d : DataW H) : 1 ≤ bulk d := by
 unfold bulk
 cases d with
 | lit l => cases l <;> simp [Rows.uptoBulk]
 | nil => simp [Rows.uptoBulk]
 | ptr d => simp [Rows.uptoBulk]
 | slice elems spare => simp [Rows.uptoBulk]
 | agg parts => simp [Rows.uptoBulk]
 | iface t d => simp [Rows.uptoBulk]
 | map entries => simp [Rows.uptoBulk]
 | held h => simp [Rows.uptoBulk]
theorem bulks_mem {H : Type} {d : DataW H} : ∀ {l : List (DataW H)}, d ∈ l → bulk d ≤ bulks l
 | x :: l, h => by
  rw [bulks_cons]
  rcases List.mem_cons.1 h with rfl | h
  ·omega
  ·have := bulks_mem h; omega
theorem bulks_len {H : Type} : ∀ (l : List (DataW H)), l.length ≤ bulks l
 | [] => by simp
 | x :: l => by
  rw [bulks_cons]
  have := bulks_len l
  have := bulk_pos x
  simp only [List.length_cons]
  omega
section
variable {H : Type} {enc : TypeId × Value → H} {w : World} {base : Nat} {spare : Nat → Bool} {held : Bool}
theorem flat_cells (w : World) (a : Addr) (sz : Nat) (f : Nat → List Value) : ∀ (n s : Nat), (∀ i, i < n → (f (s + i)).length = sz ∧ ∀ j u, (f (s + i))[j]? = some u → w.cell? (a.add ((s + i) * sz + j)) = some u) →
  ∀ k u, (((List.range n).map fun i => f (s + i)).flatten)[k]? = some u → w.cell? (a.add (s * sz + k)) = some u
 | 0, s, _, k, u, hk => by simp at hk
 | n + 1, s, h, k, u, hk => by
  rw [List.range_succ_eq_map, List.map_cons, List.flatten_cons, List.map_map] at hk
  obtain ⟨h1, h2⟩ := h 0 (by omega)
  rw [Nat.add_zero] at h1 h2 hk
  by_cases hlt : k < sz
  ·rw [List.getElem?_append_left (by omega)] at hk
   exact h2 k u hk
  ·rw [List.getElem?_append_right (by omega), h1] at hk
   have := flat_cells w a sz f n (s + 1) (fun i hi => by
    have := h (i + 1) (by omega)
    rwa [show s + (i + 1) = s + 1 + i by omega] at this) (k - sz) u (by
     have e : ((fun i => f (s + i)) ∘ Nat.succ) = fun i => f (s + 1 + i) := by funext i; simp only [Function.comp_apply, Nat.succ_eq_add_one]; congr 1; omega
     rw [e] at hk
     exact hk)
   rwa [show (s + 1) * sz + (k - sz) = s * sz + k by rw [Nat.add_mul, Nat.one_mul]; omega] at this
theorem mapM_some_at {α β : Type} {f : α → Option β} : ∀ {l : List α} {r : List β}, l.mapM f = some r → r.length = l.length ∧ ∀ (i : Nat) (a : α), l[i]? = some a → f a = r[i]?
 | [], r, h => by simp at h; subst h; simp
 | x :: l, r, h => by
  simp only [List.mapM_cons, Option.bind_eq_bind, Option.bind_eq_some_iff, Option.pure_def, Option.some.injEq] at h
  obtain ⟨b, hb, r', hr', rfl⟩ := h
  obtain ⟨h1, h2⟩ := mapM_some_at hr'
  refine ⟨by simp [h1], fun i a ha => ?_⟩
  cases i with
  | zero => simp at ha; subst ha; simpa using hb
  | succ i => simpa using h2 i a (by simpa using ha)
theorem open_rows {t e : TypeId} {sz fuel : Nat} {cs : List Value} {x : DataW H × List MemPlace} (ht : Tryz.prog.underlying t = some (.slice e)) (hc : Tryz.prog.cellsOf e = sz) (h0 : 0 < sz)
  (h : DataW.trod enc Tryz.prog w base spare held fuel t cs = some x) (Q : List Value → DataW H → Prop)
  (hel : ∀ n cs' y, DataW.trod enc Tryz.prog w base spare held n e cs' = some y → bulk y.1 < bulk x.1 → Q cs' y.1) :
  ∃ v rows, cs = [v] ∧ SlR (fun b => b < w.heap.size) w sz v rows ∧ rows.length < bulk x.1 ∧ ∀ r ∈ rows, ∃ d, Q r d ∧ bulk d < bulk x.1 := by
 rcases open_slice ht h with ⟨rfl, rfl⟩ | ⟨a, len, cap, m, n, D, Pl, rfl, hb, hlc, hcap, hm, rfl, hat⟩
 ·exact ⟨_, [], rfl, ⟨⟨none, 0, 0, rfl, rfl, Nat.le_refl _, by decide, fun _ => rfl, ⟨by simp, fun h => absurd h (by omega)⟩, fun h => absurd h (by omega)⟩, fun r hr => by cases hr⟩, Nat.lt_of_lt_of_le Nat.zero_lt_one (bulk_pos _), fun r hr => by cases hr⟩
 ·have hlm : len ≤ m := by rw [hm]; split <;> omega
  rw [hc] at hat
  have hD : ∀ i, i < len → bulk (D i) < bulk (DataW.slice ((List.range len).map D) ((List.range (m - len)).map fun j => D (len + j))) := fun i hi => by
   have := bulks_mem (d := D i) (l := (List.range len).map D) (List.mem_map.2 ⟨i, List.mem_range.2 hi, rfl⟩)
   rw [bulk_slice]
   omega
  have hF : ∀ i, i < len → ((w.cells? base (a.add (i * sz)) sz).getD []).length = sz ∧ (∀ j u, ((w.cells? base (a.add (i * sz)) sz).getD [])[j]? = some u → w.cell? (a.add (i * sz + j)) = some u) ∧ Q ((w.cells? base (a.add (i * sz)) sz).getD []) (D i) := fun i hi => by
   obtain ⟨cs', h1, h2⟩ := hat i (by omega)
   rw [h1, Option.getD_some]
   have h3 := h1
   unfold World.cells? at h3
   split at h3
   ·obtain ⟨h4, h5⟩ := mapM_some_at h3
    rw [List.length_range] at h4
    refine ⟨h4, fun j u hu => ?_, hel n cs' _ h2 (hD i hi)⟩
    have hj : j < sz := by rw [← h4]; exact (List.getElem?_eq_some_iff.1 hu).1
    have := h5 j j (by simp [hj])
    rw [hu, add_add] at this
    exact this
   ·cases h3
  have hfl := flat_cells w a sz (fun i => (w.cells? base (a.add (i * sz)) sz).getD []) len 0 (fun i hi => by
   rw [Nat.zero_add]
   exact ⟨(hF i hi).1, (hF i hi).2.1⟩)
  simp only [Nat.zero_add, Nat.zero_mul] at hfl
  have hlenf : (((List.range len).map fun i => (w.cells? base (a.add (i * sz)) sz).getD []).flatten).length = len * sz := by
   rw [List.length_flatten, List.map_map]
   have : (List.range len).map (List.length ∘ fun i => (w.cells? base (a.add (i * sz)) sz).getD []) = (List.range len).map fun _ => sz := List.map_congr_left fun i hi => (hF i (List.mem_range.1 hi)).1
   rw [this]
   simp [List.map_const']
  have hspot : 0 < len → a.spot = none ∧ a.block < w.heap.size := fun hl => by
   obtain ⟨b, o, sp⟩ := a
   have h1 : ∃ u, (((List.range len).map fun i => (w.cells? base (Addr.add ⟨b, o, sp⟩ (i * sz)) sz).getD []).flatten)[0]? = some u := ⟨_, List.getElem?_eq_getElem (by rw [hlenf]; exact Nat.mul_pos hl h0)⟩
   obtain ⟨u, hu⟩ := h1
   have hu' := hfl 0 u hu
   have e0 : (Addr.add ⟨b, o, sp⟩ 0) = ⟨b, o, sp⟩ := by simp [Addr.add]
   rw [e0] at hu'
   exact ⟨cell_spot hu', World.block_lt_of_cell? w _ hu'⟩
  refine ⟨_, (List.range len).map fun i => (w.cells? base (a.add (i * sz)) sz).getD [], rfl, ⟨⟨some a, len, cap, rfl, by simp, hlc, hcap, (fun h => by cases h), ⟨hlenf, fun hl => ?_⟩, fun hl y hy => ?_⟩, fun r hr => ?_⟩, ?_, fun r hr => ?_⟩
  ·obtain ⟨b, o, sp⟩ := a
   obtain ⟨h1, _⟩ := hspot hl
   simp only at h1
   subst h1
   refine ⟨b, o, rfl, fun k u hu => ?_⟩
   have := hfl k u hu
   rwa [Addr.add_lit] at this
  ·cases hy
   exact (hspot hl).2
  ·obtain ⟨i, hi, rfl⟩ := List.mem_map.1 hr
   exact (hF i (List.mem_range.1 hi)).1
  ·rw [List.length_map, List.length_range, bulk_slice]
   have := bulks_len ((List.range len).map D)
   rw [List.length_map, List.length_range] at this
   omega
  ·obtain ⟨i, hi, rfl⟩ := List.mem_map.1 hr
   exact ⟨D i, (hF i (List.mem_range.1 hi)).2.2, hD i (List.mem_range.1 hi)⟩
end
theorem rows_map {α : Type} (f : α → List Value) (Q : α → Prop) : ∀ (rows : List (List Value)), (∀ r ∈ rows, ∃ y, r = f y ∧ Q y) → ∃ l : List α, rows = l.map f ∧ ∀ y ∈ l, Q y
 | [], _ => ⟨[], rfl, fun y hy => by cases hy⟩
 | r :: rows, h => by
  obtain ⟨y, rfl, hy⟩ := h r (by simp)
  obtain ⟨l, rfl, hl⟩ := rows_map f Q rows fun r hr => h r (by simp [hr])
  exact ⟨y :: l, rfl, fun z hz => by
   rcases List.mem_cons.1 hz with rfl | hz
   ·exact hy
   ·exact hl z hz⟩
end
end Go.Proofs.YtfgjiidbafdndaaGreatDoor
