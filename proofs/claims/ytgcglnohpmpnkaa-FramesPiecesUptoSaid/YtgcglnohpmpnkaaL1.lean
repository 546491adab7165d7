/- Laws on append for slices whose elements take one cell: the source may be nil, empty or not; the target is nil or the call's own. -/
import Derived.WalkKit
import Derived.Maps.AppendAt
import Derived.Laws.AppendOwnNone
import Derived.Deep.Draws
namespace Go.Proofs.Ytgcglnohpmpnkaa
open Go.RowKit

/-- The slice value with address A and length n reads as these cells. -/
def Rd (w : World) (A : Option Addr) (n : Nat) (xs : List Value) : Prop :=
  xs.length = n ∧ (0 < n → ∃ b o, A = some ⟨b, o, none⟩ ∧ ∀ k u, xs[k]? = some u → w.cell? ⟨b, o + k, none⟩ = some u)

/-- Type t is a slice of type e, whose elements take one cell and so many bytes. -/
structure SOf (P : Program) (t e : TypeId) (bytes : Nat) : Prop where
  ht : P.underlying t = some (.slice e)
  ex : ∃ i z, P.info? e = some i ∧ i.zero = some z ∧ i.size = 1 ∧ i.bytes = bytes ∧ z.cells.size = 1

theorem SOf.mk' {P : Program} {t e : TypeId} {bytes : Nat} {z : Value} (ht : P.underlying t = some (.slice e))
    (h : (P.info? e).map (fun i => (i.zero, i.size, i.bytes)) = some (some z, 1, bytes)) (hz : z.cells.size = 1) : SOf P t e bytes := by
  obtain ⟨i, h1, h2, h3, h4⟩ := info_parts h
  exact ⟨ht, i, z, h1, h2, h3, h4, hz⟩

theorem run_app {P : Program} (w : World) {t e : TypeId} {bytes : Nat} (S : SOf P t e bytes) (ty : TypeId) (base : Nat)
    (v : Value) (n : Nat) (xs : List Value) (hown : w.ownsRow base e 1 v n xs) (A : Option Addr) (m c : Nat) (news : List Value) (hr : Rd w A m news)
    (h0 : m = 0 → A = none → c = 0)
    (h1 : ∀ u ∈ news, u.oneCell' = true) (h63 : n + m ≤ maxLen) (hb : (n + m) * bytes ≤ 140737488355328) (hbase : base ≤ w.heap.size) :
    ∃ v' w', (Builtin.append_ #[t, t] ty #[v, .slice A m c]).run P w = .ok v' w' ∧ w'.ownsRow base e 1 v' (n + m) (xs ++ news) ∧ w.grownBy w' v.ownBlock ∧
      (v'.ownBlock = v.ownBlock ∨ v'.ownBlock = some w.heap.size) := by
  obtain ⟨ht, i, z, hi, hz, hs, hby, hzs⟩ := S
  rcases A with _ | ad
  · have hm : m = 0 := by
      rcases Nat.eq_zero_or_pos m with h | h
      · exact h
      · obtain ⟨_, _, h', _⟩ := hr.2 h
        cases h'
    subst hm
    have hc := h0 rfl rfl
    subst hc
    have hn : news = [] := List.eq_nil_of_length_eq_zero hr.1
    subst hn
    exact ⟨v, w, run_append_owned_none w base t ty e i 1 ht hi v n xs hown, by simpa using hown, World.grownBy.refl w _, .inl rfl⟩
  · have hcells : ∀ j u, news[j]? = some u → w.cell? (ad.add j) = some u := by
      intro j u hu
      have hj : j < news.length := (List.getElem?_eq_some_iff.1 hu).1
      obtain ⟨b, o, h', hc⟩ := hr.2 (by have := hr.1; omega)
      cases h'
      rw [Addr.add_lit]
      exact hc j u hu
    obtain ⟨v', w', hrun, h2, h3, _, h5⟩ := run_append_own_at (P := P) w base t ty e i z 1 bytes ht hi hz hs hby hzs (by omega) v n xs hown ad m c news (by rw [hr.1]; omega) hcells h1 h63 hb hbase
    exact ⟨v', w', hrun, h2, h3, h5⟩

theorem wp_app {P : Program} (w : World) {t e : TypeId} {bytes : Nat} (S : SOf P t e bytes) {o : Oper} {a : Act} {K : Act → World → Prop} {Q : Exit → Act → World → Prop} (s x : Operand)
    (ho : o.op = .call { callee := .builtin .append, args := #[s, x], argTypes := #[t, t] }) (base : Nat)
    (v : Value) (n : Nat) (xs : List Value) (hs : a.eval s = v) (hown : w.ownsRow base e 1 v n xs) (A : Option Addr) (m c : Nat) (news : List Value) (hx : a.eval x = .slice A m c) (hr : Rd w A m news)
    (h0 : m = 0 → A = none → c = 0)
    (h1 : ∀ u ∈ news, u.oneCell' = true) (h63 : n + m ≤ maxLen) (hb : (n + m) * bytes ≤ 140737488355328) (hbase : base ≤ w.heap.size)
    (h : ∀ v' w', w'.ownsRow base e 1 v' (n + m) (xs ++ news) → w.grownBy w' v.ownBlock → (v'.ownBlock = v.ownBlock ∨ v'.ownBlock = some w.heap.size) → K (a.put o.dst v') w') : o.wp P a w K Q := by
  obtain ⟨v', w', hrun, h2, h3, h4⟩ := run_app (P := P) w S o.type base v n xs hown A m c news hr h0 h1 h63 hb hbase
  unfold Oper.wp execOp
  simp only [ho, resolve, invoke, builtin, Sem.run_bind, Sem.run_pure, Result.andThen_ok, List.map_toArray, List.map_cons, List.map_nil, hs, hx, hrun]
  exact h v' w' h2 h3 h4

theorem wpList_app {P : Program} {w : World} {t e : TypeId} {bytes : Nat} (S : SOf P t e bytes) {ops : Array Oper} {rest : List Oper} {o : Oper} {a : Act} {Q : Exit → Act → World → Prop} (hgd : o.guard = none) (s x : Operand)
    (ho : o.op = .call { callee := .builtin .append, args := #[s, x], argTypes := #[t, t] }) (base : Nat)
    (v : Value) (n : Nat) (xs : List Value) (hs : a.eval s = v) (hown : w.ownsRow base e 1 v n xs) (A : Option Addr) (m c : Nat) (news : List Value) (hx : a.eval x = .slice A m c) (hr : Rd w A m news)
    (h0 : m = 0 → A = none → c = 0)
    (h1 : ∀ u ∈ news, u.oneCell' = true) (h63 : n + m ≤ maxLen) (hb : (n + m) * bytes ≤ 140737488355328) (hbase : base ≤ w.heap.size)
    (h : ∀ v' w', w'.ownsRow base e 1 v' (n + m) (xs ++ news) → w.grownBy w' v.ownBlock → (v'.ownBlock = v.ownBlock ∨ v'.ownBlock = some w.heap.size) → wpList P ops Q rest (a.put o.dst v') w') : wpList P ops Q (o :: rest) a w :=
  wpList_plain hgd fun _ hK => wp_app w S s x ho base v n xs hs hown A m c news hx hr h0 h1 h63 hb hbase fun v' w' h2 h3 h4 => hK _ _ (h v' w' h2 h3 h4)

/-- An append whose run is known. -/
theorem wpList_append_run {P : Program} {w : World} {ops : Array Oper} {rest : List Oper} {o : Oper} {a : Act} {Q : Exit → Act → World → Prop} (hgd : o.guard = none) (s x : Operand) (ts : Array TypeId)
    (ho : o.op = .call { callee := .builtin .append, args := #[s, x], argTypes := ts }) (sv xv : Value) (v : Value) (w' : World) (hs : a.eval s = sv) (hx : a.eval x = xv)
    (hrun : ∀ ty, (Builtin.append_ ts ty #[sv, xv]).run P w = .ok v w') (h : wpList P ops Q rest (a.put o.dst v) w') : wpList P ops Q (o :: rest) a w :=
  wpList_plain hgd fun _ hK => by
    unfold Oper.wp execOp
    simp only [ho, resolve, invoke, builtin, Sem.run_bind, Sem.run_pure, Result.andThen_ok, List.map_toArray, List.map_cons, List.map_nil, hs, hx, hrun]
    exact hK _ _ h

theorem step_app {P : Program} {w : World} {t e : TypeId} {bytes : Nat} (S : SOf P t e bytes) {ops : Array Oper} {o : Oper} {a : Act} {K : Act → World → Prop} {Q : Exit → Act → World → Prop} {E : Prop} (hgd : o.guard = none) (s x : Operand)
    (ho : o.op = .call { callee := .builtin .append, args := #[s, x], argTypes := #[t, t] }) (base : Nat)
    (v : Value) (n : Nat) (xs : List Value) (hs : a.eval s = v) (hown : w.ownsRow base e 1 v n xs) (A : Option Addr) (m c : Nat) (news : List Value) (hx : a.eval x = .slice A m c) (hr : Rd w A m news)
    (h0 : m = 0 → A = none → c = 0)
    (h1 : ∀ u ∈ news, u.oneCell' = true) (h63 : n + m ≤ maxLen) (hb : (n + m) * bytes ≤ 140737488355328) (hbase : base ≤ w.heap.size)
    (h : ∀ v' w', w'.ownsRow base e 1 v' (n + m) (xs ++ news) → w.grownBy w' v.ownBlock → (v'.ownBlock = v.ownBlock ∨ v'.ownBlock = some w.heap.size) → K (a.put o.dst v') w') :
    if Region.wanted o (yielded ops a.tmps) = true then Oper.wp P o a w K Q else E := by
  rw [if_pos (by simp [Region.wanted, hgd])]
  exact wp_app w S s x ho base v n xs hs hown A m c news hx hr h0 h1 h63 hb hbase h

/-! Where a row of the call's own lies, and that it reads as its cells. -/
theorem Rd.none_ (w : World) : Rd w none 0 [] := ⟨rfl, fun h => absurd h (by omega)⟩
theorem ownsRow_form {w : World} {base : Nat} {e : TypeId} {v : Value} {n : Nat} {xs : List Value} (h : w.ownsRow base e 1 v n xs) :
    ∃ A c, v = .slice A n c ∧ n ≤ c ∧ c ≤ maxLen ∧ (n = 0 → A = none → c = 0) ∧ Rd w A n xs ∧ (∀ b, v.ownBlock = some b → A = some ⟨b, 0, none⟩) ∧ (A = none → v.ownBlock = none) := by
  obtain ⟨hl, h⟩ := h
  rcases h with ⟨rfl, rfl⟩ | ⟨g, cap, cur, rfl, hb, hg, hn, hm, hc, ht⟩
  · exact ⟨none, 0, rfl, Nat.le_refl _, by decide, fun _ _ => rfl, ⟨by simpa using hl, fun h => absurd h (by omega)⟩, fun b h => by simp [Value.ownBlock] at h, fun _ => rfl⟩
  · refine ⟨some ⟨g, 0, none⟩, cap, rfl, hn, hm, (fun _ h => by cases h), ⟨by omega, fun _ => ⟨g, 0, rfl, fun k u hu => ?_⟩⟩, (fun b h => ?_), (fun h => by cases h)⟩
    · rw [Nat.zero_add, cell_of_row w g k cur e (0, 0) hg]
      rw [← ht, List.getElem?_take] at hu
      split at hu
      · simpa using hu
      · cases hu
    · simp only [Value.ownBlock, Option.some.injEq] at h; rw [← h]

theorem Rd.kept {w w' : World} {A : Option Addr} {n : Nat} {xs : List Value} (h : Rd w A n xs) (hk : ∀ p v, w.cell? p = some v → w'.cell? p = some v) : Rd w' A n xs :=
  ⟨h.1, fun hn => let ⟨b, o, hA, hc⟩ := h.2 hn; ⟨b, o, hA, fun k u hu => hk _ _ (hc k u hu)⟩⟩
theorem Rd.below {w w' : World} {A : Option Addr} {n : Nat} {xs : List Value} (h : Rd w A n xs) (hb : Below w.heap.size w w') : Rd w' A n xs :=
  h.kept fun p _ hp => (hb.cell (p := p) (World.block_lt_of_cell? w p hp)).trans hp
theorem Rd.alloc {w : World} {A : Option Addr} {n : Nat} {xs : List Value} (h : Rd w A n xs) (o : Obj) : Rd (w.alloc o) A n xs :=
  h.kept fun p _ hp => (World.cell?_alloc_lt w o p (World.block_lt_of_cell? w p hp)).trans hp
theorem Rd.drewN {w : World} {A : Option Addr} {n : Nat} {xs : List Value} (h : Rd w A n xs) (k : Nat) : Rd (w.drewN k) A n xs := h
theorem Rd.drew {w : World} {A : Option Addr} {n : Nat} {xs : List Value} (h : Rd w A n xs) : Rd w.drew A n xs := h
theorem below_drewN {B : Nat} {a w : World} (h : Below B a w) (n : Nat) : Below B a (w.drewN n) := ⟨h.os, h.tape, h.output, h.size, h.block⟩
theorem below_grown {B : Nat} {a w w' : World} {v : Value} (h : Below B a w) (hg : w.grownBy w' v.ownBlock) (hB : B ≤ w.heap.size) (hv : ∀ k, v.ownBlock = some k → B ≤ k) : Below B a w' := h.grown hg hB hv

/-! Pieces of a slice. -/
def subA (A : Option Addr) (cap k : Nat) : Option Addr := if cap = k then A else A.map (·.add k)
theorem elem_of {P : Program} {t e : TypeId} (h : P.underlying t = some (.slice e)) : P.underlying t = some (.slice (P.elem t)) := by
  simp [Program.elem, h]
theorem SOf.size {P : Program} {t e : TypeId} {bytes : Nat} (S : SOf P t e bytes) (w : World) : (sizeOf (P.elem t)).run P w = .ok 1 w := by
  obtain ⟨ht, i, z, hi, _, hs, _⟩ := S
  have he : P.elem t = e := by simp [Program.elem, ht]
  rw [he]
  simp [sizeOf, typeInfo, hi, hs]
theorem run_sub_lh {P : Program} {t e : TypeId} {bytes : Nat} (S : SOf P t e bytes) (A : Option Addr) (len cap : Nat) (l h : Int) (l' h' : Nat) (el : l = l') (eh : h = h') (h1 : l' ≤ h') (h2 : h' ≤ cap) (w : World) :
    (Instr.slice t (.slice A len cap) (some (.int .i64 l)) (some (.int .i64 h)) none).run P w = .ok (.slice (subA A cap l') (h' - l') (cap - l')) w := by
  subst el eh
  rw [run_slice_lh w t A len cap (elem_of S.ht) .i64 .i64 l' h' (by omega) (by omega) (by omega), S.size]
  simp [Result.andThen, sliced, subA]
theorem run_sub_l {P : Program} {t e : TypeId} {bytes : Nat} (S : SOf P t e bytes) (A : Option Addr) (len cap : Nat) (l : Int) (l' : Nat) (el : l = l') (h1 : l' ≤ len) (w : World) :
    (Instr.slice t (.slice A len cap) (some (.int .i64 l)) none none).run P w = .ok (.slice (subA A cap l') (len - l') (cap - l')) w := by
  subst el
  rw [run_slice_l w t A len cap (elem_of S.ht) .i64 l' (by omega) (by omega), S.size]
  simp [Result.andThen, sliced, subA]
theorem run_sub_h {P : Program} {t e : TypeId} {bytes : Nat} (S : SOf P t e bytes) (A : Option Addr) (len cap : Nat) (h : Int) (h' : Nat) (eh : h = h') (h2 : h' ≤ cap) (w : World) :
    (Instr.slice t (.slice A len cap) none (some (.int .i64 h)) none).run P w = .ok (.slice A h' cap) w := by
  subst eh
  rw [run_slice_h w t A len cap (elem_of S.ht) .i64 h' (by omega) (by omega), S.size]
  have : (if cap = 0 then A else A.map (·.add 0)) = A := by
    split
    · rfl
    · cases A <;> simp [Addr.add_zero']
  simp [Result.andThen, sliced, this]
theorem Rd.sub {w : World} {A : Option Addr} {n cap : Nat} {xs : List Value} (h : Rd w A n xs) (k m : Nat) (h1 : k ≤ m) (h2 : m ≤ n) (h3 : n ≤ cap) : Rd w (subA A cap k) (m - k) ((xs.drop k).take (m - k)) := by
  refine ⟨by have := h.1; rw [List.length_take, List.length_drop]; omega, fun hn => ?_⟩
  obtain ⟨b, o, rfl, hc⟩ := h.2 (by omega)
  refine ⟨b, o + k, by rw [subA, if_neg (by omega)]; simp [Addr.add_lit], fun j u hu => ?_⟩
  rw [Nat.add_assoc]
  apply hc
  rw [List.getElem?_take] at hu
  split at hu
  · rwa [List.getElem?_drop] at hu
  · cases hu

/-! Calls that only read, in a region that draws its order: the world is some draws on. -/
section
variable {P : Program} {f : FuncId} {args : Array Value} {w : World} {a n : Nat} {v : Value}
theorem q_draws (h : Calls P f args (w.drewN (a + n)) fun e w' => e = .returned v ∧ ∃ m, w' = (w.drewN (a + n)).drewN m) :
    Calls P f args (w.drewN (a + n)) fun e w'' => e = .returned v ∧ ∃ m, w'' = w.drewN (a + m) :=
  h.mono fun _ _ ⟨he, m, hm⟩ => ⟨he, n + m, by rw [hm, World.drewN_drewN, Nat.add_assoc]⟩
theorem q_same (h : Calls P f args (w.drewN (a + n)) fun e w' => e = .returned v ∧ w.drewN (a + n) = w') :
    Calls P f args (w.drewN (a + n)) fun e w'' => e = .returned v ∧ ∃ m, w'' = w.drewN (a + m) :=
  h.mono fun _ _ ⟨he, hm⟩ => ⟨he, n, hm.symm⟩
theorem q0_draws (h : Calls P f args (w.drewN n) fun e w' => e = .returned v ∧ ∃ m, w' = (w.drewN n).drewN m) :
    Calls P f args (w.drewN n) fun e w'' => e = .returned v ∧ ∃ m, w'' = w.drewN m :=
  h.mono fun _ _ ⟨he, m, hm⟩ => ⟨he, n + m, by rw [hm, World.drewN_drewN]⟩
theorem q0_same (h : Calls P f args (w.drewN n) fun e w' => e = .returned v ∧ w.drewN n = w') :
    Calls P f args (w.drewN n) fun e w'' => e = .returned v ∧ ∃ m, w'' = w.drewN m :=
  h.mono fun _ _ ⟨he, hm⟩ => ⟨he, n, hm.symm⟩
end

end Go.Proofs.Ytgcglnohpmpnkaa
