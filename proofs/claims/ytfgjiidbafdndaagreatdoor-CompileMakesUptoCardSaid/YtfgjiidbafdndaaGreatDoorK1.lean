/- Laws that shorten walks: a contract that keeps the world; a part of a region that is walked apart; a run of operations whose outcome is known. -/
import Derived.WalkKit
import Derived.OrdersHeld
import Derived.Deep.RegionHeld3
import Derived.KernelRfl
import Derived.Maps.AppendAt
import Derived.Laws.AppendOwnNone
import Derived.Deep.Draws
import Derived.Test.YtfgjiidbafdndaaGreatDoorProg
import Derived.WalkSpells
import Derived.WalkLawsBesides
import Derived.BigQuiet
import Derived.Lib.Hide
import Derived.Deep.QuietTactic
import Derived.Deep.MidRow
import Derived.Deep.DeepCutAuto
import Derived.Laws.CopyOwn
namespace Go.Proofs.YtfgjiidbafdndaaGreatDoor
open Go.RowKit
section
theorem nm {α : Sort _} (x : α) : ∃ y, x = y := ⟨_, rfl⟩
theorem kept {P : Program} {f : FuncId} {args : Array Value} {w : World} {v : Value} {Q : Ending → World → Prop} (h : Calls P f args w fun e w' => e = .returned v ∧ w' = w) (hq : Q (.returned v) w) : Calls P f args w Q :=
 h.mono (by rintro e w' ⟨rfl, rfl⟩; exact hq)
def Mid (R : Act → World → Prop) (Q : Exit → Act → World → Prop) : Exit → Act → World → Prop
 | .normal => R
 | e => Q e
section
variable {P : Program} {ops : Array Oper} {Q : Exit → Act → World → Prop}
theorem oper_mono {o : Oper} {a : Act} {w : World} {K K' : Act → World → Prop} {R : Act → World → Prop} (h : ∀ a w, K a w → K' a w) (hh : o.wp P a w K (Mid R Q)) : o.wp P a w K' Q := by
 unfold Oper.wp at *
 generalize (execOp a.eval o).run P w = r at *
 cases r with
 | ok n w' =>
  cases n <;> simp only [Oper.upon] at hh ⊢ <;>
   first
    | exact h _ _ hh
    | exact Calls.mono hh (fun e w'' he => by cases e <;> first | exact h _ _ he | exact he)
    | exact Rows.mono hh (fun _ _ he => h _ _ he)
 | halt x w' => cases x <;> simp only [Oper.upon] at hh ⊢ <;> exact hh
theorem wpList_mid {R : Act → World → Prop} {rest : List Oper} (h2 : ∀ a w, R a w → wpList P ops Q rest a w) : ∀ (blk : List Oper) (a : Act) (w : World), wpList P ops (Mid R Q) blk a w → wpList P ops Q (blk ++ rest) a w
 | [], a, w, h => h2 a w h
 | o :: blk, a, w, h => by
  rw [List.cons_append]
  unfold wpList at h ⊢
  split
  ·rename_i hw
   rw [if_pos hw] at h
   exact h.imp (oper_mono (wpList_mid h2 blk)) id
  ·rename_i hw
   rw [if_neg hw] at h
   exact wpList_mid h2 blk _ _ h
def puts (a : Act) (us : Nat → Value) : List Nat → Act
 | [] => a
 | j :: js => puts (a.put (some j) (us j)) us js
theorem wpList_cut (k : Nat) (js : List Nat) (j : Nat) (b : Bool) {l : List Oper} {a : Act} {w : World}
  (h1 : wpList P ops (Mid (fun a' w' => w' = w ∧ a' = (puts a (fun i => a'.tmps.getD i undef) js).put (some j) (.bool b)) Q) (l.take k) a w)
  (h2 : ∀ us, wpList P ops Q (l.drop k) ((puts a us js).put (some j) (.bool b)) w) : wpList P ops Q l a w := by
 rw [← List.take_append_drop k l]
 exact wpList_mid (fun a' w' h => by obtain ⟨rfl, h⟩ := h; rw [h]; exact h2 _) _ _ _ h1
end
section
variable {P : Program} {md : Region.Mode} {ops : Array Oper} {Q : Exit → Act → World → Prop} {S : World → Prop}
theorem wp_region_held_lit {id : Nat} {a : Act} {w : World} (k : Nat) (listed : Array Bool) (hk : ops.size = k) (hl : Array.replicate k false = listed) (hm : P.follows .mixedOrders = true) (hS : S w.drew)
  (h : S w.drew → wpAnyH P .any ops Q S k listed a w.drew) : (Code.region id ops true).wp P Q a w := wp_region_held_drew hm hS (fun hw => by rw [hk, hl]; exact h hw)
theorem tkl {fuel : Nat} {listed : Array Bool} {a : Act} {w : World} (i : Nat) (oi : Oper) (v : Value) (hv : ∀ w, S w → (execOp a.eval oi).run P w = .ok (.value v) w) (hS : S w)
  (h : wpAnyH P md ops Q S fuel (listed.setIfInBounds i true) (a.put oi.dst v) w)
  (hi : ops[i]? = some oi := by rfl) (hw : Region.wanted oi (yielded ops a.tmps) = true := by rfl)
  (hb : (Region.noSelect ops && (Region.free md ops listed i && (Region.ready md ops listed).contains i)) = true := by kernel_rfl)
  (hQ : ∀ c a w, Q (.panic c) (a.put oi.dst v) w → Q (.panic c) a w := by exact fun _ _ _ h => h) : wpAnyH P md ops Q S (fuel + 1) listed a w := by
 simp only [Bool.and_eq_true] at hb
 exact wpAnyH_take hi hb.1 hb.2.1 hb.2.2 hQ (.inl ⟨hw, hv⟩) hS h
theorem tk {fuel : Nat} {listed : Array Bool} {a : Act} {w : World} (i : Nat) (oi : Oper) (v : Value) (hi : ops[i]? = some oi)
  (hb : (Region.noSelect ops && (Region.free md ops listed i && (Region.ready md ops listed).contains i)) = true)
  (hQ : ∀ c a w, Q (.panic c) (a.put oi.dst v) w → Q (.panic c) a w) (hy : YieldsIf P ops S oi v a) (hS : S w)
  (h : wpAnyH P md ops Q S fuel (listed.setIfInBounds i true) (a.put oi.dst v) w) : wpAnyH P md ops Q S (fuel + 1) listed a w := by
 simp only [Bool.and_eq_true] at hb
 exact wpAnyH_take hi hb.1 hb.2.1 hb.2.2 hQ hy hS h
end
end
def Rd (w : World) (sz : Nat) (A : Option Addr) (n : Nat) (xs : List Value) : Prop :=
 xs.length = n * sz ∧ (0 < n → ∃ b o, A = some ⟨b, o, none⟩ ∧ ∀ k u, xs[k]? = some u → w.cell? ⟨b, o + k, none⟩ = some u)
structure SOf (P : Program) (t e : TypeId) (sz bytes : Nat) : Prop where
 ht : P.underlying t = some (.slice e)
 ex : ∃ i z, P.info? e = some i ∧ i.zero = some z ∧ i.size = sz ∧ i.bytes = bytes ∧ z.cells.size = sz ∧ 0 < sz
theorem SOf.mk' {P : Program} {t e : TypeId} {sz bytes : Nat} {z : Value} (ht : P.underlying t = some (.slice e))
  (h : (P.info? e).map (fun i => (i.zero, i.size, i.bytes)) = some (some z, sz, bytes)) (hz : z.cells.size = sz) (h0 : 0 < sz) : SOf P t e sz bytes := by
 obtain ⟨i, h1, h2, h3, h4⟩ := info_parts h
 exact ⟨ht, i, z, h1, h2, h3, h4, hz, h0⟩
theorem run_app {P : Program} (w : World) {t e : TypeId} {sz bytes : Nat} (S : SOf P t e sz bytes) (ty : TypeId) (base : Nat)
  (v : Value) (n : Nat) (xs : List Value) (hown : w.ownsRow base e sz v n xs) (A : Option Addr) (m c : Nat) (news : List Value) (hr : Rd w sz A m news)
  (h0 : m = 0 → A = none → c = 0)
  (h1 : ∀ u ∈ news, u.oneCell' = true) (h63 : n + m ≤ maxLen) (hb : (n + m) * bytes ≤ 140737488355328) (hbase : base ≤ w.heap.size) :
  ∃ v' w', (Builtin.append_ #[t, t] ty #[v, .slice A m c]).run P w = .ok v' w' ∧ w'.ownsRow base e sz v' (n + m) (xs ++ news) ∧ w.grownBy w' v.ownBlock ∧
   (v'.ownBlock = v.ownBlock ∨ v'.ownBlock = some w.heap.size) := by
 obtain ⟨ht, i, z, hi, hz, hs, hby, hzs, hsz⟩ := S
 rcases A with _ | ad
 ·have hm : m = 0 := by
   rcases Nat.eq_zero_or_pos m with h | h
   ·exact h
   ·obtain ⟨_, _, h', _⟩ := hr.2 h
    cases h'
  subst hm
  have hc := h0 rfl rfl
  subst hc
  have hn : news = [] := List.eq_nil_of_length_eq_zero (by have := hr.1; rwa [Nat.zero_mul] at this)
  subst hn
  exact ⟨v, w, run_append_owned_none w base t ty e i sz ht hi v n xs hown, by simpa using hown, World.grownBy.refl w _, .inl rfl⟩
 ·have hcells : ∀ j u, news[j]? = some u → w.cell? (ad.add j) = some u := by
   intro j u hu
   have hj : j < news.length := (List.getElem?_eq_some_iff.1 hu).1
   have hm0 : 0 < m := Nat.pos_of_ne_zero fun h => by
    have := hr.1
    rw [h, Nat.zero_mul] at this
    omega
   obtain ⟨b, o, h', hc⟩ := hr.2 hm0
   cases h'
   rw [Addr.add_lit]
   exact hc j u hu
  obtain ⟨v', w', hrun, h2, h3, _, h5⟩ := run_append_own_at (P := P) w base t ty e i z sz bytes ht hi hz hs hby hzs (by omega) v n xs hown ad m c news (by rw [hr.1]) hcells h1 h63 hb hbase
  exact ⟨v', w', hrun, h2, h3, h5⟩
theorem wp_app {P : Program} (w : World) {t e : TypeId} {sz bytes : Nat} (S : SOf P t e sz bytes) {o : Oper} {a : Act} {K : Act → World → Prop} {Q : Exit → Act → World → Prop} (s x : Operand)
  (ho : o.op = .call { callee := .builtin .append, args := #[s, x], argTypes := #[t, t] }) (base : Nat)
  (v : Value) (n : Nat) (xs : List Value) (hs : a.eval s = v) (hown : w.ownsRow base e sz v n xs) (A : Option Addr) (m c : Nat) (news : List Value) (hx : a.eval x = .slice A m c) (hr : Rd w sz A m news)
  (h0 : m = 0 → A = none → c = 0)
  (h1 : ∀ u ∈ news, u.oneCell' = true) (h63 : n + m ≤ maxLen) (hb : (n + m) * bytes ≤ 140737488355328) (hbase : base ≤ w.heap.size)
  (h : ∀ v' w', w'.ownsRow base e sz v' (n + m) (xs ++ news) → w.grownBy w' v.ownBlock → (v'.ownBlock = v.ownBlock ∨ v'.ownBlock = some w.heap.size) → K (a.put o.dst v') w') : o.wp P a w K Q := by
 obtain ⟨v', w', hrun, h2, h3, h4⟩ := run_app (P := P) w S o.type base v n xs hown A m c news hr h0 h1 h63 hb hbase
 unfold Oper.wp execOp
 simp only [ho, resolve, invoke, builtin, Sem.run_bind, Sem.run_pure, Result.andThen_ok, List.map_toArray, List.map_cons, List.map_nil, hs, hx, hrun]
 exact h v' w' h2 h3 h4
theorem wpList_app {P : Program} {w : World} {t e : TypeId} {sz bytes : Nat} (S : SOf P t e sz bytes) {ops : Array Oper} {rest : List Oper} {o : Oper} {a : Act} {Q : Exit → Act → World → Prop} (hgd : o.guard = none) (s x : Operand)
  (ho : o.op = .call { callee := .builtin .append, args := #[s, x], argTypes := #[t, t] }) (base : Nat)
  (v : Value) (n : Nat) (xs : List Value) (hs : a.eval s = v) (hown : w.ownsRow base e sz v n xs) (A : Option Addr) (m c : Nat) (news : List Value) (hx : a.eval x = .slice A m c) (hr : Rd w sz A m news)
  (h0 : m = 0 → A = none → c = 0)
  (h1 : ∀ u ∈ news, u.oneCell' = true) (h63 : n + m ≤ maxLen) (hb : (n + m) * bytes ≤ 140737488355328) (hbase : base ≤ w.heap.size)
  (h : ∀ v' w', w'.ownsRow base e sz v' (n + m) (xs ++ news) → w.grownBy w' v.ownBlock → (v'.ownBlock = v.ownBlock ∨ v'.ownBlock = some w.heap.size) → wpList P ops Q rest (a.put o.dst v') w') : wpList P ops Q (o :: rest) a w :=
 wpList_plain hgd fun _ hK => wp_app w S s x ho base v n xs hs hown A m c news hx hr h0 h1 h63 hb hbase fun v' w' h2 h3 h4 => hK _ _ (h v' w' h2 h3 h4)
theorem wpList_append_run {P : Program} {w : World} {ops : Array Oper} {rest : List Oper} {o : Oper} {a : Act} {Q : Exit → Act → World → Prop} (hgd : o.guard = none) (s x : Operand) (ts : Array TypeId)
  (ho : o.op = .call { callee := .builtin .append, args := #[s, x], argTypes := ts }) (sv xv : Value) (v : Value) (w' : World) (hs : a.eval s = sv) (hx : a.eval x = xv)
  (hrun : ∀ ty, (Builtin.append_ ts ty #[sv, xv]).run P w = .ok v w') (h : wpList P ops Q rest (a.put o.dst v) w') : wpList P ops Q (o :: rest) a w :=
 wpList_plain hgd fun _ hK => by
  unfold Oper.wp execOp
  simp only [ho, resolve, invoke, builtin, Sem.run_bind, Sem.run_pure, Result.andThen_ok, List.map_toArray, List.map_cons, List.map_nil, hs, hx, hrun]
  exact hK _ _ h
theorem step_app {P : Program} {w : World} {t e : TypeId} {sz bytes : Nat} (S : SOf P t e sz bytes) {ops : Array Oper} {o : Oper} {a : Act} {K : Act → World → Prop} {Q : Exit → Act → World → Prop} {E : Prop} (hgd : o.guard = none) (s x : Operand)
  (ho : o.op = .call { callee := .builtin .append, args := #[s, x], argTypes := #[t, t] }) (base : Nat)
  (v : Value) (n : Nat) (xs : List Value) (hs : a.eval s = v) (hown : w.ownsRow base e sz v n xs) (A : Option Addr) (m c : Nat) (news : List Value) (hx : a.eval x = .slice A m c) (hr : Rd w sz A m news)
  (h0 : m = 0 → A = none → c = 0)
  (h1 : ∀ u ∈ news, u.oneCell' = true) (h63 : n + m ≤ maxLen) (hb : (n + m) * bytes ≤ 140737488355328) (hbase : base ≤ w.heap.size)
  (h : ∀ v' w', w'.ownsRow base e sz v' (n + m) (xs ++ news) → w.grownBy w' v.ownBlock → (v'.ownBlock = v.ownBlock ∨ v'.ownBlock = some w.heap.size) → K (a.put o.dst v') w') :
  if Region.wanted o (yielded ops a.tmps) = true then Oper.wp P o a w K Q else E := by
 rw [if_pos (by simp [Region.wanted, hgd])]
 exact wp_app w S s x ho base v n xs hs hown A m c news hx hr h0 h1 h63 hb hbase h
structure IdD where
 scheme : ByteArray
 id : ByteArray
structure AclD where
 perms : Int
 id : IdD
def IdD.cells (x : IdD) : List Value := [.string x.scheme, .string x.id]
def AclD.cells (x : AclD) : List Value := [.int .i32 x.perms, .string x.id.scheme, .string x.id.id]
def strCells (s : ByteArray) : List Value := [.string s]
def byteCells (b : UInt8) : List Value := [.int .u8 b.toNat]
structure TxnF where
 type : Int
 path : ByteArray
 data : List UInt8
 acl : List AclD
 owner : Int
 version : Int
 creates : Int
 has : Bool
 count : Int
 bytes : Int
 sid : Int
 timeout : Int
 ids : List IdD
 paths : List ByteArray
 code : Int
def TxnF.cells (f : TxnF) (data acl ids paths subs : Value) : List Value :=
 [.int .i32 f.type, .string f.path, data, acl, .int .i64 f.owner, .int .i32 f.version, .int .i32 f.creates, .bool f.has, .int .i64 f.count, .int .i64 f.bytes,
  .int .i64 f.sid, .int .i32 f.timeout, ids, paths, .int .i32 f.code, subs]
inductive TxnD where
 | mk (f : TxnF) (subs : List TxnD)
structure SlR (A : Nat → Prop) (w : World) (sz : Nat) (v : Value) (rows : List (List Value)) : Prop where
 ex : ∃ a n c, v = .slice a n c ∧ rows.length = n ∧ n ≤ c ∧ c ≤ maxLen ∧ (a = none → c = 0) ∧ Rd w sz a n rows.flatten ∧ (0 < n → ∀ x, a = some x → A x.block)
 each : ∀ r ∈ rows, r.length = sz
theorem SlR.mono {A B : Nat → Prop} {w : World} {sz : Nat} {v : Value} {rows : List (List Value)} (h : SlR A w sz v rows) (hab : ∀ b, A b → B b) : SlR B w sz v rows := by
 obtain ⟨⟨a, n, c, h1, h2, h3, h4, h5, h6, h7⟩, h8⟩ := h
 exact ⟨⟨a, n, c, h1, h2, h3, h4, h5, h6, fun h0 x hx => hab _ (h7 h0 x hx)⟩, h8⟩
theorem SlR.kept {A : Nat → Prop} {w w' : World} {sz : Nat} {v : Value} {rows : List (List Value)} (h : SlR A w sz v rows) (hk : ∀ b, A b → w'.heap[b]? = w.heap[b]?) : SlR A w' sz v rows := by
 obtain ⟨⟨a, n, c, h1, h2, h3, h4, h5, ⟨h6, h6'⟩, h7⟩, h8⟩ := h
 refine ⟨⟨a, n, c, h1, h2, h3, h4, h5, ⟨h6, fun h0 => ?_⟩, h7⟩, h8⟩
 obtain ⟨b, o, ha, hc⟩ := h6' h0
 refine ⟨b, o, ha, fun k u hu => ?_⟩
 have := hc k u hu
 have hb := hk b (h7 h0 _ ha)
 unfold World.cell? at this ⊢
 simp only at this ⊢
 rw [hb]; exact this
mutual
def TxnR (A : Nat → Prop) (w : World) : TxnD → List Value → Prop
 | .mk f subs, cs => ∃ vd va vi vp vs rows, cs = f.cells vd va vi vp vs ∧ SlR A w 1 vd (f.data.map byteCells) ∧ SlR A w 3 va (f.acl.map AclD.cells) ∧ SlR A w 2 vi (f.ids.map IdD.cells) ∧
   SlR A w 1 vp (f.paths.map strCells) ∧ SlR A w 16 vs rows ∧ TxnsR A w subs rows
def TxnsR (A : Nat → Prop) (w : World) : List TxnD → List (List Value) → Prop
 | [], rows => rows = []
 | t :: ts, rows => ∃ r rs, rows = r :: rs ∧ TxnR A w t r ∧ TxnsR A w ts rs
end
mutual
theorem TxnR.mono {A B : Nat → Prop} {w : World} (hab : ∀ b, A b → B b) : ∀ {t : TxnD} {cs : List Value}, TxnR A w t cs → TxnR B w t cs
 | .mk f subs, cs, h => by
  rw [TxnR] at h ⊢
  obtain ⟨vd, va, vi, vp, vs, rows, h0, h1, h2, h3, h4, h5, h6⟩ := h
  exact ⟨vd, va, vi, vp, vs, rows, h0, h1.mono hab, h2.mono hab, h3.mono hab, h4.mono hab, h5.mono hab, TxnsR.mono hab h6⟩
theorem TxnsR.mono {A B : Nat → Prop} {w : World} (hab : ∀ b, A b → B b) : ∀ {ts : List TxnD} {rows : List (List Value)}, TxnsR A w ts rows → TxnsR B w ts rows
 | [], rows, h => by rw [TxnsR] at h ⊢; exact h
 | t :: ts, rows, h => by
  rw [TxnsR] at h ⊢
  obtain ⟨r, rs, h0, h1, h2⟩ := h
  exact ⟨r, rs, h0, TxnR.mono hab h1, TxnsR.mono hab h2⟩
end
mutual
theorem TxnR.kept {A : Nat → Prop} {w w' : World} (hk : ∀ b, A b → w'.heap[b]? = w.heap[b]?) : ∀ {t : TxnD} {cs : List Value}, TxnR A w t cs → TxnR A w' t cs
 | .mk f subs, cs, h => by
  rw [TxnR] at h ⊢
  obtain ⟨vd, va, vi, vp, vs, rows, h0, h1, h2, h3, h4, h5, h6⟩ := h
  exact ⟨vd, va, vi, vp, vs, rows, h0, h1.kept hk, h2.kept hk, h3.kept hk, h4.kept hk, h5.kept hk, TxnsR.kept hk h6⟩
theorem TxnsR.kept {A : Nat → Prop} {w w' : World} (hk : ∀ b, A b → w'.heap[b]? = w.heap[b]?) : ∀ {ts : List TxnD} {rows : List (List Value)}, TxnsR A w ts rows → TxnsR A w' ts rows
 | [], rows, h => by rw [TxnsR] at h ⊢; exact h
 | t :: ts, rows, h => by
  rw [TxnsR] at h ⊢
  obtain ⟨r, rs, h0, h1, h2⟩ := h
  exact ⟨r, rs, h0, TxnR.kept hk h1, TxnsR.kept hk h2⟩
end
theorem TxnR.length {A : Nat → Prop} {w : World} : ∀ {t : TxnD} {cs : List Value}, TxnR A w t cs → cs.length = 16
 | .mk f subs, cs, h => by
  rw [TxnR] at h
  obtain ⟨vd, va, vi, vp, vs, rows, h0, _⟩ := h
  subst h0; rfl
set_option maxHeartbeats 400000
theorem below_app {B : Nat} {a w w' : World} {base sz : Nat} {e : TypeId} {v : Value} {n : Nat} {xs : List Value} (h : Below B a w) (hg : w.grownBy w' v.ownBlock) (ho : w.ownsRow base e sz v n xs) (hb : B ≤ base) (hB : B ≤ w.heap.size) : Below B a w' :=
 h.grown hg hB fun k hk => Nat.le_trans hb (ho.lt k hk).1
theorem slr_own {w : World} {base sz n : Nat} {e : TypeId} {v : Value} {rows : List (List Value)} (h : w.ownsRow base e sz v n rows.flatten) (hn : rows.length = n) (he : ∀ r ∈ rows, r.length = sz) :
  SlR (fun b => base ≤ b ∧ b < w.heap.size) w sz v rows := by
 refine ⟨?_, he⟩
 rcases h.2 with ⟨rfl, h0⟩ | ⟨g, cap, cur, rfl, hb, hg, h1, h2, h3, h4⟩
 ·subst h0
  exact ⟨none, 0, 0, rfl, hn, Nat.le_refl _, by decide, fun _ => rfl, ⟨h.1, fun h => absurd h (by omega)⟩, fun h => absurd h (by omega)⟩
 ·refine ⟨some ⟨g, 0, none⟩, n, cap, rfl, hn, h1, h2, (fun h => by cases h), ⟨h.1, fun _ => ⟨g, 0, rfl, fun k u hu => ?_⟩⟩, fun _ x hx => by cases hx; exact ⟨hb, (Array.getElem?_eq_some_iff.1 hg).1⟩⟩
  have hk : k < n * sz := by
   have := (List.getElem?_eq_some_iff.1 hu).1
   rw [h.1] at this; exact this
  unfold World.cell?
  simp only [hg, Nat.zero_add]
  rw [← h4, List.getElem?_take, if_pos hk] at hu
  simpa using hu
theorem SlR.below {A : Nat → Prop} {w w' : World} {sz : Nat} {v : Value} {rows : List (List Value)} (h : SlR A w sz v rows) (hA : ∀ b, A b → b < w.heap.size) (hb : Below w.heap.size w w') : SlR A w' sz v rows :=
 h.kept fun b hab => hb.block b (hA b hab)
theorem rd_alloc {w : World} {sz n : Nat} {a : Option Addr} {xs : List Value} (h : Rd w sz a n xs) (o : Obj) : Rd (w.alloc o) sz a n xs := by
 refine ⟨h.1, fun h0 => ?_⟩
 obtain ⟨b, off, ha, hc⟩ := h.2 h0
 exact ⟨b, off, ha, fun k u hu => (World.cell?_alloc_lt w o _ (World.block_lt_of_cell? w _ (hc k u hu))).trans (hc k u hu)⟩
theorem one_flatten {rows : List (List Value)} (h : ∀ r ∈ rows, ∀ u ∈ r, u.oneCell' = true) : ∀ u ∈ rows.flatten, u.oneCell' = true := fun u hu => by
 obtain ⟨r, hr, hur⟩ := List.mem_flatten.1 hu
 exact h r hr u hur
theorem sAcl : SOf Tryz.prog 23 81 3 40 :=
 SOf.mk' (z := .agg #[.int .i32 0, .string ⟨#[]⟩, .string ⟨#[]⟩]) Tryz.underlying23 (by kernel_rfl) rfl (by decide)
theorem cloneAcl_any (A : Nat → Prop) (v : Value) (rows : List (List Value)) (w : World) (h : SlR A w 3 v rows) (hone : ∀ r ∈ rows, ∀ u ∈ r, u.oneCell' = true) (hsm : rows.length ≤ 1048576) :
  Calls Tryz.prog 56 #[v] w fun e w' => ∃ v', e = .returned v' ∧ Below w.heap.size w w' ∧ SlR (fun b => w.heap.size ≤ b ∧ b < w'.heap.size) w' 3 v' rows ∧ w'.ownsRow w.heap.size 81 3 v' rows.length rows.flatten := by
 obtain ⟨⟨a, n, cap, rfl, hn, hle, hm, hnil, hrd, _⟩, he⟩ := h
 have ho : (w.alloc (.cells #[] 81)).ownsRow w.heap.size 81 3 (.slice (some ⟨w.heap.size, 0, none⟩) 0 0) 0 [] := World.ownsRow_made w #[] 0 (Nat.le_refl _) (by decide) rfl
 have hq := fun (w : World) A n c => Lib.run_eql_slice_nil (P := Tryz.prog) w 23 81 A n c 0 0 Tryz.underlying23
 have hmul : (0 + n) * 40 ≤ 140737488355328 := by omega
 rcases a with _ | ad
 ·obtain rfl := hnil rfl
  obtain rfl : n = 0 := by omega
  obtain rfl : rows = [] := List.eq_nil_of_length_eq_zero hn
  go_enter Tryz.func56, Tryz.ntmps56
  go_wp2_with fail
  go_ret
  exact ⟨_, rfl, Below.refl _ _, ⟨⟨none, 0, 0, rfl, rfl, Nat.le_refl _, by decide, fun _ => rfl, ⟨rfl, fun h => absurd h (by omega)⟩, fun h => absurd h (by omega)⟩, fun r hr => by cases hr⟩, World.ownsRow_nil _ _ _ _⟩
 go_enter Tryz.func56, Tryz.ntmps56
 go_wp2_with (at_builtin; refine wpList_app sAcl rfl (.tmp 5) (.tmp 6) rfl w.heap.size _ 0 [] rfl ho (some ad) n cap rows.flatten rfl (rd_alloc hrd _) (fun _ h => by cases h) (one_flatten hone) (by unfold maxLen; omega) hmul (by simp) ?_; intro v1 w1 hown1 hg1 hat1)
 go_ret
 rw [Nat.zero_add, List.nil_append] at hown1
 have hbel := below_app ((Below.refl w.heap.size w).alloc (Nat.le_refl _) _) hg1 ho (Nat.le_refl _) (by simp)
 exact ⟨v1, rfl, hbel, slr_own hown1 hn he, by rw [hn]; exact hown1⟩
theorem sId : SOf Tryz.prog 26 79 2 32 :=
 SOf.mk' (z := .agg #[.string ⟨#[]⟩, .string ⟨#[]⟩]) Tryz.underlying26 (by kernel_rfl) rfl (by decide)
theorem cloneId_any (A : Nat → Prop) (v : Value) (rows : List (List Value)) (w : World) (h : SlR A w 2 v rows) (hone : ∀ r ∈ rows, ∀ u ∈ r, u.oneCell' = true) (hsm : rows.length ≤ 1048576) :
  Calls Tryz.prog 57 #[v] w fun e w' => ∃ v', e = .returned v' ∧ Below w.heap.size w w' ∧ SlR (fun b => w.heap.size ≤ b ∧ b < w'.heap.size) w' 2 v' rows ∧ w'.ownsRow w.heap.size 79 2 v' rows.length rows.flatten := by
 obtain ⟨⟨a, n, cap, rfl, hn, hle, hm, hnil, hrd, _⟩, he⟩ := h
 have ho : (w.alloc (.cells #[] 79)).ownsRow w.heap.size 79 2 (.slice (some ⟨w.heap.size, 0, none⟩) 0 0) 0 [] := World.ownsRow_made w #[] 0 (Nat.le_refl _) (by decide) rfl
 have hq := fun (w : World) A n c => Lib.run_eql_slice_nil (P := Tryz.prog) w 26 79 A n c 0 0 Tryz.underlying26
 have hmul : (0 + n) * 32 ≤ 140737488355328 := by omega
 rcases a with _ | ad
 ·obtain rfl := hnil rfl
  obtain rfl : n = 0 := by omega
  obtain rfl : rows = [] := List.eq_nil_of_length_eq_zero hn
  go_enter Tryz.func57, Tryz.ntmps57
  go_wp2_with fail
  go_ret
  exact ⟨_, rfl, Below.refl _ _, ⟨⟨none, 0, 0, rfl, rfl, Nat.le_refl _, by decide, fun _ => rfl, ⟨rfl, fun h => absurd h (by omega)⟩, fun h => absurd h (by omega)⟩, fun r hr => by cases hr⟩, World.ownsRow_nil _ _ _ _⟩
 go_enter Tryz.func57, Tryz.ntmps57
 go_wp2_with (at_builtin; refine wpList_app sId rfl (.tmp 5) (.tmp 6) rfl w.heap.size _ 0 [] rfl ho (some ad) n cap rows.flatten rfl (rd_alloc hrd _) (fun _ h => by cases h) (one_flatten hone) (by unfold maxLen; omega) hmul (by simp) ?_; intro v1 w1 hown1 hg1 hat1)
 go_ret
 rw [Nat.zero_add, List.nil_append] at hown1
 have hbel := below_app ((Below.refl w.heap.size w).alloc (Nat.le_refl _) _) hg1 ho (Nat.le_refl _) (by simp)
 exact ⟨v1, rfl, hbel, slr_own hown1 hn he, by rw [hn]; exact hown1⟩
theorem sStr : SOf Tryz.prog 29 9 1 16 :=
 SOf.mk' (z := .string ⟨#[]⟩) Tryz.underlying29 (by kernel_rfl) rfl (by decide)
theorem cloneStr_any (A : Nat → Prop) (v : Value) (rows : List (List Value)) (w : World) (h : SlR A w 1 v rows) (hone : ∀ r ∈ rows, ∀ u ∈ r, u.oneCell' = true) (hsm : rows.length ≤ 1048576) :
  Calls Tryz.prog 58 #[v] w fun e w' => ∃ v', e = .returned v' ∧ Below w.heap.size w w' ∧ SlR (fun b => w.heap.size ≤ b ∧ b < w'.heap.size) w' 1 v' rows ∧ w'.ownsRow w.heap.size 9 1 v' rows.length rows.flatten := by
 obtain ⟨⟨a, n, cap, rfl, hn, hle, hm, hnil, hrd, _⟩, he⟩ := h
 have ho : (w.alloc (.cells #[] 9)).ownsRow w.heap.size 9 1 (.slice (some ⟨w.heap.size, 0, none⟩) 0 0) 0 [] := World.ownsRow_made w #[] 0 (Nat.le_refl _) (by decide) rfl
 have hq := fun (w : World) A n c => Lib.run_eql_slice_nil (P := Tryz.prog) w 29 9 A n c 0 0 Tryz.underlying29
 have hmul : (0 + n) * 16 ≤ 140737488355328 := by omega
 rcases a with _ | ad
 ·obtain rfl := hnil rfl
  obtain rfl : n = 0 := by omega
  obtain rfl : rows = [] := List.eq_nil_of_length_eq_zero hn
  go_enter Tryz.func58, Tryz.ntmps58
  go_wp2_with fail
  go_ret
  exact ⟨_, rfl, Below.refl _ _, ⟨⟨none, 0, 0, rfl, rfl, Nat.le_refl _, by decide, fun _ => rfl, ⟨rfl, fun h => absurd h (by omega)⟩, fun h => absurd h (by omega)⟩, fun r hr => by cases hr⟩, World.ownsRow_nil _ _ _ _⟩
 go_enter Tryz.func58, Tryz.ntmps58
 go_wp2_with (at_builtin; refine wpList_app sStr rfl (.tmp 5) (.tmp 6) rfl w.heap.size _ 0 [] rfl ho (some ad) n cap rows.flatten rfl (rd_alloc hrd _) (fun _ h => by cases h) (one_flatten hone) (by unfold maxLen; omega) hmul (by simp) ?_; intro v1 w1 hown1 hg1 hat1)
 go_ret
 rw [Nat.zero_add, List.nil_append] at hown1
 have hbel := below_app ((Below.refl w.heap.size w).alloc (Nat.le_refl _) _) hg1 ho (Nat.le_refl _) (by simp)
 exact ⟨v1, rfl, hbel, slr_own hown1 hn he, by rw [hn]; exact hown1⟩
theorem sTxn : SOf Tryz.prog 31 33 16 208 :=
 SOf.mk' (z := .agg #[.int .i32 0, .string ⟨#[]⟩, .slice none 0 0, .slice none 0 0, .int .i64 0, .int .i32 0, .int .i32 0, .bool false, .int .i64 0, .int .i64 0, .int .i64 0, .int .i32 0, .slice none 0 0, .slice none 0 0, .int .i32 0, .slice none 0 0]) Tryz.underlying31 (by kernel_rfl) rfl (by decide)
theorem cloneTxn_any (A : Nat → Prop) (v : Value) (rows : List (List Value)) (w : World) (h : SlR A w 16 v rows) (hone : ∀ r ∈ rows, ∀ u ∈ r, u.oneCell' = true) (hsm : rows.length ≤ 1048576) :
  Calls Tryz.prog 59 #[v] w fun e w' => ∃ v', e = .returned v' ∧ Below w.heap.size w w' ∧ SlR (fun b => w.heap.size ≤ b ∧ b < w'.heap.size) w' 16 v' rows ∧ w'.ownsRow w.heap.size 33 16 v' rows.length rows.flatten := by
 obtain ⟨⟨a, n, cap, rfl, hn, hle, hm, hnil, hrd, _⟩, he⟩ := h
 have ho : (w.alloc (.cells #[] 33)).ownsRow w.heap.size 33 16 (.slice (some ⟨w.heap.size, 0, none⟩) 0 0) 0 [] := World.ownsRow_made w #[] 0 (Nat.le_refl _) (by decide) rfl
 have hq := fun (w : World) A n c => Lib.run_eql_slice_nil (P := Tryz.prog) w 31 33 A n c 0 0 Tryz.underlying31
 have hmul : (0 + n) * 208 ≤ 140737488355328 := by omega
 rcases a with _ | ad
 ·obtain rfl := hnil rfl
  obtain rfl : n = 0 := by omega
  obtain rfl : rows = [] := List.eq_nil_of_length_eq_zero hn
  go_enter Tryz.func59, Tryz.ntmps59
  go_wp2_with fail
  go_ret
  exact ⟨_, rfl, Below.refl _ _, ⟨⟨none, 0, 0, rfl, rfl, Nat.le_refl _, by decide, fun _ => rfl, ⟨rfl, fun h => absurd h (by omega)⟩, fun h => absurd h (by omega)⟩, fun r hr => by cases hr⟩, World.ownsRow_nil _ _ _ _⟩
 go_enter Tryz.func59, Tryz.ntmps59
 go_wp2_with (at_builtin; refine wpList_app sTxn rfl (.tmp 5) (.tmp 6) rfl w.heap.size _ 0 [] rfl ho (some ad) n cap rows.flatten rfl (rd_alloc hrd _) (fun _ h => by cases h) (one_flatten hone) (by unfold maxLen; omega) hmul (by simp) ?_; intro v1 w1 hown1 hg1 hat1)
 go_ret
 rw [Nat.zero_add, List.nil_append] at hown1
 have hbel := below_app ((Below.refl w.heap.size w).alloc (Nat.le_refl _) _) hg1 ho (Nat.le_refl _) (by simp)
 exact ⟨v1, rfl, hbel, slr_own hown1 hn he, by rw [hn]; exact hown1⟩
theorem sBytes : SOf Tryz.prog 22 5 1 1 :=
 SOf.mk' (z := .int .u8 0) Tryz.underlying22 (by kernel_rfl) rfl (by decide)
theorem cloneBytes_any (A : Nat → Prop) (v : Value) (rows : List (List Value)) (w : World) (h : SlR A w 1 v rows) (hone : ∀ r ∈ rows, ∀ u ∈ r, u.oneCell' = true) (hsm : rows.length ≤ 1048576) :
  Calls Tryz.prog 55 #[v] w fun e w' => ∃ v', e = .returned v' ∧ Below w.heap.size w w' ∧ SlR (fun b => w.heap.size ≤ b ∧ b < w'.heap.size) w' 1 v' rows ∧ w'.ownsRow w.heap.size 5 1 v' rows.length rows.flatten := by
 obtain ⟨⟨a, n, cap, rfl, hn, hle, hm, hnil, hrd, _⟩, he⟩ := h
 have ho : (w.alloc (.cells #[] 5)).ownsRow w.heap.size 5 1 (.slice (some ⟨w.heap.size, 0, none⟩) 0 0) 0 [] := World.ownsRow_made w #[] 0 (Nat.le_refl _) (by decide) rfl
 have hq := fun (w : World) A n c => Lib.run_eql_slice_nil (P := Tryz.prog) w 22 5 A n c 0 0 Tryz.underlying22
 have hmul : (0 + n) * 1 ≤ 140737488355328 := by omega
 rcases a with _ | ad
 ·obtain rfl := hnil rfl
  obtain rfl : n = 0 := by omega
  obtain rfl : rows = [] := List.eq_nil_of_length_eq_zero hn
  go_enter Tryz.func55, Tryz.ntmps55
  go_wp2_with fail
  go_ret
  exact ⟨_, rfl, Below.refl _ _, ⟨⟨none, 0, 0, rfl, rfl, Nat.le_refl _, by decide, fun _ => rfl, ⟨rfl, fun h => absurd h (by omega)⟩, fun h => absurd h (by omega)⟩, fun r hr => by cases hr⟩, World.ownsRow_nil _ _ _ _⟩
 go_enter Tryz.func55, Tryz.ntmps55
 go_wp2_with (at_builtin; refine wpList_app sBytes rfl (.tmp 5) (.tmp 6) rfl w.heap.size _ 0 [] rfl ho (some ad) n cap rows.flatten rfl (rd_alloc hrd _) (fun _ h => by cases h) (one_flatten hone) (by unfold maxLen; omega) hmul (by simp) ?_; intro v1 w1 hown1 hg1 hat1)
 go_ret
 rw [Nat.zero_add, List.nil_append] at hown1
 have hbel := below_app ((Below.refl w.heap.size w).alloc (Nat.le_refl _) _) hg1 ho (Nat.le_refl _) (by simp)
 exact ⟨v1, rfl, hbel, slr_own hown1 hn he, by rw [hn]; exact hown1⟩
theorem sByte : SOf Tryz.prog 22 5 1 1 :=
 SOf.mk' (z := .int .u8 0) Tryz.underlying22 (by kernel_rfl) rfl (by decide)
theorem cloneByte_any (A : Nat → Prop) (v : Value) (rows : List (List Value)) (w : World) (h : SlR A w 1 v rows) (hone : ∀ r ∈ rows, ∀ u ∈ r, u.oneCell' = true) (hsm : rows.length ≤ 1048576) :
  Calls Tryz.prog 60 #[v] w fun e w' => ∃ v', e = .returned v' ∧ Below w.heap.size w w' ∧ SlR (fun b => w.heap.size ≤ b ∧ b < w'.heap.size) w' 1 v' rows ∧ w'.ownsRow w.heap.size 5 1 v' rows.length rows.flatten := by
 obtain ⟨⟨a, n, cap, rfl, hn, hle, hm, hnil, hrd, _⟩, he⟩ := h
 have ho : (w.alloc (.cells #[] 5)).ownsRow w.heap.size 5 1 (.slice (some ⟨w.heap.size, 0, none⟩) 0 0) 0 [] := World.ownsRow_made w #[] 0 (Nat.le_refl _) (by decide) rfl
 have hq := fun (w : World) A n c => Lib.run_eql_slice_nil (P := Tryz.prog) w 22 5 A n c 0 0 Tryz.underlying22
 have hmul : (0 + n) * 1 ≤ 140737488355328 := by omega
 rcases a with _ | ad
 ·obtain rfl := hnil rfl
  obtain rfl : n = 0 := by omega
  obtain rfl : rows = [] := List.eq_nil_of_length_eq_zero hn
  go_enter Tryz.func60, Tryz.ntmps60
  go_wp2_with fail
  go_ret
  exact ⟨_, rfl, Below.refl _ _, ⟨⟨none, 0, 0, rfl, rfl, Nat.le_refl _, by decide, fun _ => rfl, ⟨rfl, fun h => absurd h (by omega)⟩, fun h => absurd h (by omega)⟩, fun r hr => by cases hr⟩, World.ownsRow_nil _ _ _ _⟩
 go_enter Tryz.func60, Tryz.ntmps60
 go_wp2_with (at_builtin; refine wpList_app sByte rfl (.tmp 5) (.tmp 6) rfl w.heap.size _ 0 [] rfl ho (some ad) n cap rows.flatten rfl (rd_alloc hrd _) (fun _ h => by cases h) (one_flatten hone) (by unfold maxLen; omega) hmul (by simp) ?_; intro v1 w1 hown1 hg1 hat1)
 go_ret
 rw [Nat.zero_add, List.nil_append] at hown1
 have hbel := below_app ((Below.refl w.heap.size w).alloc (Nat.le_refl _) _) hg1 ho (Nat.le_refl _) (by simp)
 exact ⟨v1, rfl, hbel, slr_own hown1 hn he, by rw [hn]; exact hown1⟩
theorem sResult : SOf Tryz.prog 38 40 22 240 :=
 SOf.mk' (z := .agg #[.int .i32 0, .int .i32 0, .string ⟨#[]⟩, .int .i64 0, .int .i64 0, .int .i64 0, .int .i64 0, .int .i32 0, .int .i32 0, .int .i32 0, .int .i64 0, .int .i32 0, .int .i32 0, .int .i64 0, .slice none 0 0, .slice none 0 0, .slice none 0 0, .int .i32 0, .int .i64 0, .int .i32 0, .slice none 0 0, .slice none 0 0]) Tryz.underlying38 (by kernel_rfl) rfl (by decide)
theorem cloneResult_any (A : Nat → Prop) (v : Value) (rows : List (List Value)) (w : World) (h : SlR A w 22 v rows) (hone : ∀ r ∈ rows, ∀ u ∈ r, u.oneCell' = true) (hsm : rows.length ≤ 1048576) :
  Calls Tryz.prog 61 #[v] w fun e w' => ∃ v', e = .returned v' ∧ Below w.heap.size w w' ∧ SlR (fun b => w.heap.size ≤ b ∧ b < w'.heap.size) w' 22 v' rows ∧ w'.ownsRow w.heap.size 40 22 v' rows.length rows.flatten := by
 obtain ⟨⟨a, n, cap, rfl, hn, hle, hm, hnil, hrd, _⟩, he⟩ := h
 have ho : (w.alloc (.cells #[] 40)).ownsRow w.heap.size 40 22 (.slice (some ⟨w.heap.size, 0, none⟩) 0 0) 0 [] := World.ownsRow_made w #[] 0 (Nat.le_refl _) (by decide) rfl
 have hq := fun (w : World) A n c => Lib.run_eql_slice_nil (P := Tryz.prog) w 38 40 A n c 0 0 Tryz.underlying38
 have hmul : (0 + n) * 240 ≤ 140737488355328 := by omega
 rcases a with _ | ad
 ·obtain rfl := hnil rfl
  obtain rfl : n = 0 := by omega
  obtain rfl : rows = [] := List.eq_nil_of_length_eq_zero hn
  go_enter Tryz.func61, Tryz.ntmps61
  go_wp2_with fail
  go_ret
  exact ⟨_, rfl, Below.refl _ _, ⟨⟨none, 0, 0, rfl, rfl, Nat.le_refl _, by decide, fun _ => rfl, ⟨rfl, fun h => absurd h (by omega)⟩, fun h => absurd h (by omega)⟩, fun r hr => by cases hr⟩, World.ownsRow_nil _ _ _ _⟩
 go_enter Tryz.func61, Tryz.ntmps61
 go_wp2_with (at_builtin; refine wpList_app sResult rfl (.tmp 5) (.tmp 6) rfl w.heap.size _ 0 [] rfl ho (some ad) n cap rows.flatten rfl (rd_alloc hrd _) (fun _ h => by cases h) (one_flatten hone) (by unfold maxLen; omega) hmul (by simp) ?_; intro v1 w1 hown1 hg1 hat1)
 go_ret
 rw [Nat.zero_add, List.nil_append] at hown1
 have hbel := below_app ((Below.refl w.heap.size w).alloc (Nat.le_refl _) _) hg1 ho (Nat.le_refl _) (by simp)
 exact ⟨v1, rfl, hbel, slr_own hown1 hn he, by rw [hn]; exact hown1⟩
section
theorem flat_at {sz : Nat} : ∀ {rows : List (List Value)}, (∀ r ∈ rows, r.length = sz) → ∀ {k : Nat} {r : List Value}, rows[k]? = some r → ∀ {j : Nat}, j < sz → rows.flatten[k * sz + j]? = r[j]?
 | [], _, k, r, h, j, hj => by simp at h
 | a :: rows, he, 0, r, h, j, hj => by
  simp only [List.getElem?_cons_zero, Option.some.injEq] at h
  subst h
  rw [List.flatten_cons, Nat.zero_mul, Nat.zero_add, List.getElem?_append_left (by rw [he a (by simp)]; exact hj)]
 | a :: rows, he, k + 1, r, h, j, hj => by
  rw [List.getElem?_cons_succ] at h
  have hl := he a (by simp)
  rw [List.flatten_cons, List.getElem?_append_right (by rw [hl, Nat.add_mul]; omega), hl, show (k + 1) * sz + j - sz = k * sz + j by rw [Nat.add_mul]; omega]
  exact flat_at (fun r hr => he r (by simp [hr])) h hj
theorem flat_length {sz : Nat} : ∀ {rows : List (List Value)}, (∀ r ∈ rows, r.length = sz) → rows.flatten.length = rows.length * sz
 | [], _ => by simp
 | a :: rows, he => by
  rw [List.flatten_cons, List.length_append, flat_length (fun r hr => he r (by simp [hr])), he a (by simp), List.length_cons, Nat.add_mul]; omega
theorem SlR.slice {A : Nat → Prop} {w : World} {sz : Nat} {v : Value} {rows : List (List Value)} (h : SlR A w sz v rows) : ∃ a n c, v = .slice a n c := by
 obtain ⟨⟨a, n, c, h1, h2, _⟩, _⟩ := h
 exact ⟨a, n, c, h1⟩
theorem SlR.len {A : Nat → Prop} {w : World} {sz : Nat} {a : Option Addr} {n c : Nat} {rows : List (List Value)} (h : SlR A w sz (.slice a n c) rows) : rows.length = n := by
 obtain ⟨⟨a', n', c', h1, h2, _⟩, _⟩ := h
 cases h1
 exact h2
theorem SlR.row {A : Nat → Prop} {w : World} {sz : Nat} {v : Value} {rows : List (List Value)} (h : SlR A w sz v rows) {k : Nat} {r : List Value} (hk : rows[k]? = some r) :
  ∃ b o n c, v = .slice (some ⟨b, o, none⟩) n c ∧ A b ∧ w.rangeAt b (o + k * sz) r := by
 obtain ⟨⟨a, n, c, h1, h2, h3, h4, h5, ⟨h6, h6'⟩, h7⟩, h8⟩ := h
 have hkl : k < rows.length := (List.getElem?_eq_some_iff.1 hk).1
 obtain ⟨b, o, rfl, hc⟩ := h6' (by omega)
 refine ⟨b, o, n, c, h1, h7 (by omega) _ rfl, fun j u hu => ?_⟩
 rw [Nat.add_assoc]
 refine hc _ _ ?_
 have hj := (List.getElem?_eq_some_iff.1 hu).1
 rw [h8 r (List.mem_of_getElem? hk)] at hj
 rw [flat_at h8 hk hj, hu]
theorem st_free {w : World} {g T : Nat} {cs : Array Value} (h : w.heap[g]? = some (.cells cs T (0, 0))) (k : Nat) : w.frozen? ⟨g, k, none⟩ = false := by simp [World.frozen?, h]
theorem st_set {w : World} {g T : Nat} {cs : Array Value} (h : w.heap[g]? = some (.cells cs T (0, 0))) (k : Nat) (v : Value) : (w.setCell ⟨g, k, none⟩ v).heap[g]? = some (.cells (cs.setIfInBounds k v) T (0, 0)) := by
 simp [World.setCell, Array.getElem?_modify, h]
theorem st_at {w : World} {g T : Nat} {cs : Array Value} (h : w.heap[g]? = some (.cells cs T (0, 0))) {k : Nat} {v : Value} (hk : cs[k]? = some v) : w.cell? ⟨g, k, none⟩ = some v := by
 simp [World.cell?, h, hk]
theorem box_at (w : World) (o o' : Obj) : ((w.alloc o).alloc o').heap[w.heap.size]? = some o := by
 rw [show ((w.alloc o).alloc o').heap = (w.heap.push o).push o' from rfl, Array.getElem?_push, if_neg (by simp), Array.getElem?_push, if_pos rfl]
theorem st_range {w : World} {g T : Nat} {cs : Array Value} (h : w.heap[g]? = some (.cells cs T (0, 0))) : w.rangeAt g 0 cs.toList := fun j v hv => by
 rw [Nat.zero_add]
 exact st_at h (by simpa using hv)
theorem SlR.on {A : Nat → Prop} {w w'' : World} {sz g k : Nat} {v u : Value} {rows : List (List Value)} (h : SlR A w sz v rows) (hA : ∀ b, A b → g < b ∧ b < w.heap.size) (hb : Below (w.setCell ⟨g, k, none⟩ u).heap.size (w.setCell ⟨g, k, none⟩ u) w'') :
  SlR A w'' sz v rows :=
 h.kept fun b hab => by
  have h1 := hA b hab
  rw [hb.block b (by simpa [World.setCell] using h1.2), heap_setCell_other w ⟨g, k, none⟩ b u (by simp; omega)]
section
variable {w : World} {base : Nat} {e : TypeId} {sz g n cap : Nat} {xs ys zs vs : List Value}
theorem own_range (h : w.ownsRow base e sz (.slice (some ⟨g, 0, none⟩) n cap) n (xs ++ ys ++ zs)) : w.rangeAt g xs.length ys := fun j v hv => by
 have hj := (List.getElem?_eq_some_iff.1 hv).1
 rw [h.cellAt _ (by have := h.1; simp at this; omega), List.append_assoc, List.getElem?_append_right (by omega), List.getElem?_append_left (by omega), ← hv]
 congr 1; omega
theorem own_there (h : w.ownsRow base e sz (.slice (some ⟨g, 0, none⟩) n cap) n (xs ++ ys ++ zs)) : w.there g xs.length ys.length := fun j hj => by
 refine ⟨?_, h.frozenAt _⟩
 have := own_range h j (ys[j]) (List.getElem?_eq_getElem hj)
 simp [this]
theorem own_setCells : ∀ (vs ys : List Value) {w : World} {xs : List Value}, w.ownsRow base e sz (.slice (some ⟨g, 0, none⟩) n cap) n (xs ++ ys ++ zs) → vs.length = ys.length →
  (w.setCells g xs.length vs).ownsRow base e sz (.slice (some ⟨g, 0, none⟩) n cap) n (xs ++ vs ++ zs) ∧ w.grownBy (w.setCells g xs.length vs) (some g)
 | [], [], w, xs, h, _ => ⟨h, World.grownBy.refl w _⟩
 | v :: vs, y :: ys, w, xs, h, hl => by
  obtain ⟨h1, h2⟩ := h.stored xs.length v
  have he : (xs ++ y :: ys ++ zs).set xs.length v = (xs ++ [v]) ++ ys ++ zs := by
   rw [List.append_assoc, List.set_append_right _ _ (Nat.le_refl _), Nat.sub_self]; simp
  rw [he] at h1
  obtain ⟨h3, h4⟩ := own_setCells vs ys h1 (by simpa using hl)
  rw [List.length_append, List.length_singleton] at h3 h4
  rw [World.setCells]
  refine ⟨by simpa using h3, h2.trans h4⟩
end
end
set_option maxHeartbeats 4000000
set_option maxRecDepth 100000
structure TxnF.Ok (f : TxnF) : Prop where
 data : f.data.length ≤ 1048576
 acl : f.acl.length ≤ 1048576
 ids : f.ids.length ≤ 1048576
 paths : f.paths.length ≤ 1048576
 path : f.path.size ≤ 1048576
 acl1 : ∀ x ∈ f.acl, x.id.scheme.size ≤ 1048576 ∧ x.id.id.size ≤ 1048576
 ids1 : ∀ x ∈ f.ids, x.scheme.size ≤ 1048576 ∧ x.id.size ≤ 1048576
 paths1 : ∀ x ∈ f.paths, x.size ≤ 1048576
mutual
def TxnOk : TxnD → Prop
 | .mk f subs => f.Ok ∧ subs.length ≤ 1048576 ∧ TxnsOk subs
def TxnsOk : List TxnD → Prop
 | [] => True
 | t :: ts => TxnOk t ∧ TxnsOk ts
end
theorem TxnsOk.get : ∀ {ts : List TxnD}, TxnsOk ts → ∀ {k : Nat} {t : TxnD}, ts[k]? = some t → TxnOk t
 | [], _, k, t, h => by simp at h
 | a :: ts, h, 0, t, hk => by rw [TxnsOk] at h; simp at hk; exact hk ▸ h.1
 | a :: ts, h, k + 1, t, hk => by rw [TxnsOk] at h; exact TxnsOk.get h.2 (by simpa using hk)
theorem TxnsR.len {A : Nat → Prop} {w : World} : ∀ {ts : List TxnD} {rows : List (List Value)}, TxnsR A w ts rows → rows.length = ts.length
 | [], rows, h => by rw [TxnsR] at h; simp [h]
 | t :: ts, rows, h => by
  rw [TxnsR] at h
  obtain ⟨r, rs, rfl, h1, h2⟩ := h
  simp [h2.len]
theorem TxnsR.get {A : Nat → Prop} {w : World} : ∀ {ts : List TxnD} {rows : List (List Value)}, TxnsR A w ts rows → ∀ {k : Nat} {t : TxnD}, ts[k]? = some t → ∃ r, rows[k]? = some r ∧ TxnR A w t r
 | [], rows, h, k, t, hk => by simp at hk
 | a :: ts, rows, h, 0, t, hk => by
  rw [TxnsR] at h
  obtain ⟨r, rs, rfl, h1, h2⟩ := h
  simp at hk
  exact ⟨r, rfl, hk ▸ h1⟩
 | a :: ts, rows, h, k + 1, t, hk => by
  rw [TxnsR] at h
  obtain ⟨r, rs, rfl, h1, h2⟩ := h
  simpa using h2.get (by simpa using hk)
theorem TxnsR.each {A : Nat → Prop} {w : World} : ∀ {ts : List TxnD} {rows : List (List Value)}, TxnsR A w ts rows → ∀ r ∈ rows, r.length = 16
 | [], rows, h, r, hr => by rw [TxnsR] at h; subst h; cases hr
 | t :: ts, rows, h, r, hr => by
  rw [TxnsR] at h
  obtain ⟨r', rs, rfl, h1, h2⟩ := h
  rcases List.mem_cons.1 hr with rfl | hr
  ·exact h1.length
  ·exact h2.each r hr
theorem TxnsR.snoc {A : Nat → Prop} {w : World} : ∀ {ts : List TxnD} {rows : List (List Value)}, TxnsR A w ts rows → ∀ {t : TxnD} {r : List Value}, TxnR A w t r → TxnsR A w (ts ++ [t]) (rows ++ [r])
 | [], rows, h, t, r, hr => by
  rw [TxnsR] at h
  subst h
  exact ⟨r, [], rfl, hr, by rw [TxnsR]⟩
 | a :: ts, rows, h, t, r, hr => by
  rw [TxnsR] at h
  obtain ⟨r', rs, rfl, h1, h2⟩ := h
  exact ⟨r', rs ++ [r], rfl, h1, h2.snoc hr⟩
theorem TxnR.one {A : Nat → Prop} {w : World} : ∀ {t : TxnD} {cs : List Value}, TxnR A w t cs → ∀ u ∈ cs, u.oneCell' = true
 | .mk f subs, cs, h, u, hu => by
  rw [TxnR] at h
  obtain ⟨vd, va, vi, vp, vs, rows, rfl, h1, h2, h3, h4, h5, h6⟩ := h
  obtain ⟨ad, nd, cd, rfl⟩ := h1.slice
  obtain ⟨aa, na, ca, rfl⟩ := h2.slice
  obtain ⟨ai, ni, ci, rfl⟩ := h3.slice
  obtain ⟨ap, np, cp, rfl⟩ := h4.slice
  obtain ⟨asb, ns, csb, rfl⟩ := h5.slice
  simp only [TxnF.cells, List.mem_cons, List.not_mem_nil, or_false] at hu
  rcases hu with rfl | rfl | rfl | rfl | rfl | rfl | rfl | rfl | rfl | rfl | rfl | rfl | rfl | rfl | rfl | rfl <;> rfl
theorem TxnsR.one {A : Nat → Prop} {w : World} : ∀ {ts : List TxnD} {rows : List (List Value)}, TxnsR A w ts rows → ∀ r ∈ rows, ∀ u ∈ r, u.oneCell' = true
 | [], rows, h, r, hr => by rw [TxnsR] at h; subst h; cases hr
 | t :: ts, rows, h, r, hr => by
  rw [TxnsR] at h
  obtain ⟨r', rs, rfl, h1, h2⟩ := h
  rcases List.mem_cons.1 hr with rfl | hr
  ·exact h1.one
  ·exact h2.one r hr
theorem one_bytes (l : List UInt8) : ∀ r ∈ l.map byteCells, ∀ u ∈ r, u.oneCell' = true := fun r hr u hu => by
 obtain ⟨b, _, rfl⟩ := List.mem_map.1 hr
 simp only [byteCells, List.mem_cons, List.not_mem_nil, or_false] at hu
 subst hu; rfl
theorem one_acls (l : List AclD) : ∀ r ∈ l.map AclD.cells, ∀ u ∈ r, u.oneCell' = true := fun r hr u hu => by
 obtain ⟨b, _, rfl⟩ := List.mem_map.1 hr
 simp only [AclD.cells, List.mem_cons, List.not_mem_nil, or_false] at hu
 rcases hu with rfl | rfl | rfl <;> rfl
theorem one_ids (l : List IdD) : ∀ r ∈ l.map IdD.cells, ∀ u ∈ r, u.oneCell' = true := fun r hr u hu => by
 obtain ⟨b, _, rfl⟩ := List.mem_map.1 hr
 simp only [IdD.cells, List.mem_cons, List.not_mem_nil, or_false] at hu
 rcases hu with rfl | rfl <;> rfl
theorem one_strs (l : List ByteArray) : ∀ r ∈ l.map strCells, ∀ u ∈ r, u.oneCell' = true := fun r hr u hu => by
 obtain ⟨b, _, rfl⟩ := List.mem_map.1 hr
 simp only [strCells, List.mem_cons, List.not_mem_nil, or_false] at hu
 subst hu; rfl
theorem range_below {w w' : World} {B b o : Nat} {cs : List Value} (h : w.rangeAt b o cs) (hb : Below B w w') (hlt : b < B) : w'.rangeAt b o cs := fun j v hv => (hb.cell (p := ⟨b, o + j, none⟩) hlt).trans (h j v hv)
theorem there_below {w w' : World} {B b o n : Nat} (h : w.there b o n) (hb : Below B w w') (hlt : b < B) : w'.there b o n := fun j hj => by
 rw [hb.cell (p := ⟨b, o + j, none⟩) hlt, hb.frozen (p := ⟨b, o + j, none⟩) hlt]
 exact h j hj
theorem own_below {w w' : World} {base B sz n : Nat} {e : TypeId} {v : Value} {xs : List Value} (h : w.ownsRow base e sz v n xs) (hb : Below B w w') (hv : ∀ k, v.ownBlock = some k → k < B) : w'.ownsRow base e sz v n xs := by
 refine ⟨h.1, ?_⟩
 rcases h.2 with h0 | ⟨g, cap, cur, rfl, h1, h2, h3⟩
 ·exact .inl h0
 ·exact .inr ⟨g, cap, cur, rfl, h1, (hb.block g (hv g rfl)).trans h2, h3⟩
def ClonedPost (t : TxnD) (w : World) (e : Ending) (w' : World) : Prop :=
 ∃ cs, e = .returned (.agg cs.toArray) ∧ Below w.heap.size w w' ∧ TxnR (fun b => w.heap.size ≤ b ∧ b < w'.heap.size) w' t cs
def ClonedInv (subs : List TxnD) (rows : List (List Value)) (n B : Nat) (v : Value) (W0 : World) (i : Value) (W : World) : Prop :=
 ∃ (k : Nat) (news : List (List Value)), i = .int .i64 k ∧ news.length = k ∧ k ≤ n ∧ TxnsR (fun b => W0.heap.size ≤ b ∧ b < W.heap.size) W (subs.take k) news ∧
  W.ownsRow B 33 16 v n (news.flatten ++ (rows.drop k).flatten) ∧ Below B W0 W
abbrev ZD40 : Obj := (.cells #[.int .i32 0, .string ⟨#[]⟩, .slice none 0 0, .slice none 0 0, .int .i64 0, .int .i32 0, .int .i32 0, .bool false, .int .i64 0, .int .i64 0, .int .i64 0, .int .i32 0, .slice none 0 0, .slice none 0 0, .int .i32 0, .slice none 0 0] 33)
abbrev ZD41 (x0 : TxnF) (x1 : Option Addr) (x2 x3 : Nat) (x4 : Option Addr) (x5 x6 : Nat) (x7 : Option Addr) (x8 x9 : Nat) (x10 : Option Addr) (x11 x12 : Nat) (x13 : Option Addr) (x14 x15 : Nat) : Obj := (.cells #[.int .i32 x0.type, .string x0.path, .slice x1 x2 x3, .slice x4 x5 x6, .int .i64 x0.owner, .int .i32 x0.version, .int .i32 x0.creates, .bool x0.has, .int .i64 x0.count, .int .i64 x0.bytes, .int .i64 x0.sid, .int .i32 x0.timeout, .slice x7 x8 x9, .slice x10 x11 x12, .int .i32 x0.code, .slice x13 x14 x15] 33)
theorem cloned_step (N : Nat) (ih : ∀ (t : TxnD) (A : Nat → Prop) (cs : List Value) (w : World), SizeOf.sizeOf t < N → TxnOk t → TxnR A w t cs → (∀ b, A b → b < w.heap.size) → Calls Tryz.prog 30 #[.agg cs.toArray] w (ClonedPost t w))
  (f : TxnF) (subs : List TxnD) (hN : SizeOf.sizeOf (TxnD.mk f subs) < N + 1) (hok : TxnOk (.mk f subs)) (A : Nat → Prop) (vd va vi vp vs : Value) (rows : List (List Value)) (w : World) (hA : ∀ b, A b → b < w.heap.size)
  (h1 : SlR A w 1 vd (f.data.map byteCells)) (h2 : SlR A w 3 va (f.acl.map AclD.cells)) (h3 : SlR A w 2 vi (f.ids.map IdD.cells)) (h4 : SlR A w 1 vp (f.paths.map strCells)) (h5 : SlR A w 16 vs rows) (h6 : TxnsR A w subs rows) :
  Calls Tryz.prog 30 #[.agg #[.int .i32 f.type, .string f.path, vd, va, .int .i64 f.owner, .int .i32 f.version, .int .i32 f.creates, .bool f.has, .int .i64 f.count, .int .i64 f.bytes, .int .i64 f.sid, .int .i32 f.timeout, vi, vp, .int .i32 f.code, vs]] w (ClonedPost (.mk f subs) w) := by
 rw [TxnOk] at hok
 obtain ⟨hf, hsl, hso⟩ := hok
 have s1 : (f.data.map byteCells).length ≤ 1048576 := by simpa using hf.data
 have s2 : (f.acl.map AclD.cells).length ≤ 1048576 := by simpa using hf.acl
 have s3 : (f.ids.map IdD.cells).length ≤ 1048576 := by simpa using hf.ids
 have s4 : (f.paths.map strCells).length ≤ 1048576 := by simpa using hf.paths
 have s5 : rows.length ≤ 1048576 := by rw [h6.len]; exact hsl
 obtain ⟨ad, nd, cd, rfl⟩ := h1.slice
 obtain ⟨aa, na, ca, rfl⟩ := h2.slice
 obtain ⟨ai, ni, ci, rfl⟩ := h3.slice
 obtain ⟨ap, np, cp, rfl⟩ := h4.slice
 obtain ⟨asb, ns, csb, rfl⟩ := h5.slice
 go_enter Tryz.func30, Tryz.ntmps30
 go_wp2_with fail
 have bb0' : Below w.heap.size w ((w.alloc (ZD41 f ad nd cd aa na ca ai ni ci ap np cp asb ns csb)).alloc ZD40) := ((Below.refl w.heap.size w).alloc (Nat.le_refl _) _).alloc (by simp) _
 have hg0' := box_at w (ZD41 f ad nd cd aa na ca ai ni ci ap np cp asb ns csb) ZD40
 have sz0' : w.heap.size + 2 ≤ ((w.alloc (ZD41 f ad nd cd aa na ca ai ni ci ap np cp asb ns csb)).alloc ZD40).heap.size := by simp
 have hz0' : ((w.alloc (ZD41 f ad nd cd aa na ca ai ni ci ap np cp asb ns csb)).alloc ZD40).heap[w.heap.size + 1]? = some ZD40 := heap_alloc2_new w _ _
 refine (cloneBytes_any A _ _ _ (h1.below hA bb0') (one_bytes _) s1).mono ?_
 rintro e w1 ⟨v1, rfl, hb1, hs1, hr1⟩
 obtain ⟨a1, n1, c1, rfl⟩ := hs1.slice
 have hg1 := (hb1.block w.heap.size (by omega)).trans hg0'
 have hz1 := (hb1.block (w.heap.size + 1) (by omega)).trans hz0'
 have bb1 := bb0'.trans (hb1.mono (by omega))
 have sz1 := Nat.le_trans sz0' hb1.size
 have hf1 := st_free hg1 2
 have hc1 := st_at hg1 (k := 2) (v := .slice ad nd cd) rfl
 replace hs1 := hs1.mono (B := fun b => w.heap.size + 2 ≤ b ∧ b < w1.heap.size) (fun b hb => ⟨by omega, hb.2⟩)
 have hd1 := st_at hg1 (k := 3) (v := .slice aa na ca) rfl
 clear hb1 hr1
 go_wp2_with fail
 have bb1' := bb1.setCell (p := ⟨w.heap.size, 2, none⟩) (Nat.le_refl _) (.slice a1 n1 c1)
 have sz1' : w.heap.size + 2 ≤ (w1.setCell ⟨w.heap.size, 2, none⟩ (.slice a1 n1 c1)).heap.size := by simpa [World.setCell] using sz1
 have hg1' : (w1.setCell ⟨w.heap.size, 2, none⟩ (.slice a1 n1 c1)).heap[w.heap.size]? = some (ZD41 f a1 n1 c1 aa na ca ai ni ci ap np cp asb ns csb) := st_set hg1 2 (.slice a1 n1 c1)
 have hz1' : (w1.setCell ⟨w.heap.size, 2, none⟩ (.slice a1 n1 c1)).heap[w.heap.size + 1]? = some ZD40 := (heap_setCell_other w1 ⟨w.heap.size, 2, none⟩ (w.heap.size + 1) (.slice a1 n1 c1) (by simp)).trans hz1
 clear hf1 hc1 hd1
 refine (cloneAcl_any A _ _ _ (h2.below hA bb1') (one_acls _) s2).mono ?_
 rintro e w2 ⟨v2, rfl, hb2, hs2, hr2⟩
 obtain ⟨a2, n2, c2, rfl⟩ := hs2.slice
 have hg2 := (hb2.block w.heap.size (by omega)).trans hg1'
 have hz2 := (hb2.block (w.heap.size + 1) (by omega)).trans hz1'
 have bb2 := bb1'.trans (hb2.mono (by omega))
 have sz2 := Nat.le_trans sz1' hb2.size
 have hf2 := st_free hg2 3
 have hc2 := st_at hg2 (k := 3) (v := .slice aa na ca) rfl
 replace hs1 := (hs1.on (g := w.heap.size) (fun b hb => ⟨by omega, by omega⟩) hb2).mono (B := fun b => w.heap.size + 2 ≤ b ∧ b < w2.heap.size) (fun b hb => ⟨by omega, by have := hb2.size; simp only [World.setCell, Array.size_modify] at this; omega⟩)
 replace hs2 := hs2.mono (B := fun b => w.heap.size + 2 ≤ b ∧ b < w2.heap.size) (fun b hb => ⟨by omega, hb.2⟩)
 have hd2 := st_at hg2 (k := 12) (v := .slice ai ni ci) rfl
 clear hb2 hr2
 go_wp2_with fail
 have bb2' := bb2.setCell (p := ⟨w.heap.size, 3, none⟩) (Nat.le_refl _) (.slice a2 n2 c2)
 have sz2' : w.heap.size + 2 ≤ (w2.setCell ⟨w.heap.size, 3, none⟩ (.slice a2 n2 c2)).heap.size := by simpa [World.setCell] using sz2
 have hg2' : (w2.setCell ⟨w.heap.size, 3, none⟩ (.slice a2 n2 c2)).heap[w.heap.size]? = some (ZD41 f a1 n1 c1 a2 n2 c2 ai ni ci ap np cp asb ns csb) := st_set hg2 3 (.slice a2 n2 c2)
 have hz2' : (w2.setCell ⟨w.heap.size, 3, none⟩ (.slice a2 n2 c2)).heap[w.heap.size + 1]? = some ZD40 := (heap_setCell_other w2 ⟨w.heap.size, 3, none⟩ (w.heap.size + 1) (.slice a2 n2 c2) (by simp)).trans hz2
 clear hf2 hc2 hd2
 refine (cloneId_any A _ _ _ (h3.below hA bb2') (one_ids _) s3).mono ?_
 rintro e w3 ⟨v3, rfl, hb3, hs3, hr3⟩
 obtain ⟨a3, n3, c3, rfl⟩ := hs3.slice
 have hg3 := (hb3.block w.heap.size (by omega)).trans hg2'
 have hz3 := (hb3.block (w.heap.size + 1) (by omega)).trans hz2'
 have bb3 := bb2'.trans (hb3.mono (by omega))
 have sz3 := Nat.le_trans sz2' hb3.size
 have hf3 := st_free hg3 12
 have hc3 := st_at hg3 (k := 12) (v := .slice ai ni ci) rfl
 replace hs1 := (hs1.on (g := w.heap.size) (fun b hb => ⟨by omega, by omega⟩) hb3).mono (B := fun b => w.heap.size + 2 ≤ b ∧ b < w3.heap.size) (fun b hb => ⟨by omega, by have := hb3.size; simp only [World.setCell, Array.size_modify] at this; omega⟩)
 replace hs2 := (hs2.on (g := w.heap.size) (fun b hb => ⟨by omega, by omega⟩) hb3).mono (B := fun b => w.heap.size + 2 ≤ b ∧ b < w3.heap.size) (fun b hb => ⟨by omega, by have := hb3.size; simp only [World.setCell, Array.size_modify] at this; omega⟩)
 replace hs3 := hs3.mono (B := fun b => w.heap.size + 2 ≤ b ∧ b < w3.heap.size) (fun b hb => ⟨by omega, hb.2⟩)
 have hd3 := st_at hg3 (k := 13) (v := .slice ap np cp) rfl
 clear hb3 hr3
 go_wp2_with fail
 have bb3' := bb3.setCell (p := ⟨w.heap.size, 12, none⟩) (Nat.le_refl _) (.slice a3 n3 c3)
 have sz3' : w.heap.size + 2 ≤ (w3.setCell ⟨w.heap.size, 12, none⟩ (.slice a3 n3 c3)).heap.size := by simpa [World.setCell] using sz3
 have hg3' : (w3.setCell ⟨w.heap.size, 12, none⟩ (.slice a3 n3 c3)).heap[w.heap.size]? = some (ZD41 f a1 n1 c1 a2 n2 c2 a3 n3 c3 ap np cp asb ns csb) := st_set hg3 12 (.slice a3 n3 c3)
 have hz3' : (w3.setCell ⟨w.heap.size, 12, none⟩ (.slice a3 n3 c3)).heap[w.heap.size + 1]? = some ZD40 := (heap_setCell_other w3 ⟨w.heap.size, 12, none⟩ (w.heap.size + 1) (.slice a3 n3 c3) (by simp)).trans hz3
 clear hf3 hc3 hd3
 refine (cloneStr_any A _ _ _ (h4.below hA bb3') (one_strs _) s4).mono ?_
 rintro e w4 ⟨v4, rfl, hb4, hs4, hr4⟩
 obtain ⟨a4, n4, c4, rfl⟩ := hs4.slice
 have hg4 := (hb4.block w.heap.size (by omega)).trans hg3'
 have hz4 := (hb4.block (w.heap.size + 1) (by omega)).trans hz3'
 have bb4 := bb3'.trans (hb4.mono (by omega))
 have sz4 := Nat.le_trans sz3' hb4.size
 have hf4 := st_free hg4 13
 have hc4 := st_at hg4 (k := 13) (v := .slice ap np cp) rfl
 replace hs1 := (hs1.on (g := w.heap.size) (fun b hb => ⟨by omega, by omega⟩) hb4).mono (B := fun b => w.heap.size + 2 ≤ b ∧ b < w4.heap.size) (fun b hb => ⟨by omega, by have := hb4.size; simp only [World.setCell, Array.size_modify] at this; omega⟩)
 replace hs2 := (hs2.on (g := w.heap.size) (fun b hb => ⟨by omega, by omega⟩) hb4).mono (B := fun b => w.heap.size + 2 ≤ b ∧ b < w4.heap.size) (fun b hb => ⟨by omega, by have := hb4.size; simp only [World.setCell, Array.size_modify] at this; omega⟩)
 replace hs3 := (hs3.on (g := w.heap.size) (fun b hb => ⟨by omega, by omega⟩) hb4).mono (B := fun b => w.heap.size + 2 ≤ b ∧ b < w4.heap.size) (fun b hb => ⟨by omega, by have := hb4.size; simp only [World.setCell, Array.size_modify] at this; omega⟩)
 replace hs4 := hs4.mono (B := fun b => w.heap.size + 2 ≤ b ∧ b < w4.heap.size) (fun b hb => ⟨by omega, hb.2⟩)
 have hd4 := st_at hg4 (k := 15) (v := .slice asb ns csb) rfl
 clear hb4 hr4
 go_wp2_with fail
 have bb4' := bb4.setCell (p := ⟨w.heap.size, 13, none⟩) (Nat.le_refl _) (.slice a4 n4 c4)
 have sz4' : w.heap.size + 2 ≤ (w4.setCell ⟨w.heap.size, 13, none⟩ (.slice a4 n4 c4)).heap.size := by simpa [World.setCell] using sz4
 have hg4' : (w4.setCell ⟨w.heap.size, 13, none⟩ (.slice a4 n4 c4)).heap[w.heap.size]? = some (ZD41 f a1 n1 c1 a2 n2 c2 a3 n3 c3 a4 n4 c4 asb ns csb) := st_set hg4 13 (.slice a4 n4 c4)
 have hz4' : (w4.setCell ⟨w.heap.size, 13, none⟩ (.slice a4 n4 c4)).heap[w.heap.size + 1]? = some ZD40 := (heap_setCell_other w4 ⟨w.heap.size, 13, none⟩ (w.heap.size + 1) (.slice a4 n4 c4) (by simp)).trans hz4
 clear hf4 hc4 hd4
 refine (cloneTxn_any A _ _ _ (h5.below hA bb4') h6.one s5).mono ?_
 rintro e w5 ⟨v5, rfl, hb5, hs5, hr5⟩
 obtain ⟨a5, n5, c5, rfl⟩ := hs5.slice
 have hg5 := (hb5.block w.heap.size (by omega)).trans hg4'
 have hz5 := (hb5.block (w.heap.size + 1) (by omega)).trans hz4'
 have bb5 := bb4'.trans (hb5.mono (by omega))
 have sz5 := Nat.le_trans sz4' hb5.size
 have hf5 := st_free hg5 15
 have hc5 := st_at hg5 (k := 15) (v := .slice asb ns csb) rfl
 replace hs1 := (hs1.on (g := w.heap.size) (fun b hb => ⟨by omega, by omega⟩) hb5)
 replace hs2 := (hs2.on (g := w.heap.size) (fun b hb => ⟨by omega, by omega⟩) hb5)
 replace hs3 := (hs3.on (g := w.heap.size) (fun b hb => ⟨by omega, by omega⟩) hb5)
 replace hs4 := (hs4.on (g := w.heap.size) (fun b hb => ⟨by omega, by omega⟩) hb5)
 go_wp2_with fail
 have hB5 : w.heap.size + 2 ≤ (w4.setCell ⟨w.heap.size, 13, none⟩ (.slice a4 n4 c4)).heap.size := sz4'
 have hB5' : (w4.setCell ⟨w.heap.size, 13, none⟩ (.slice a4 n4 c4)).heap.size ≤ w5.heap.size := hb5.size
 have hn5 : rows.length = n5 := hs5.len
 have he5 := hs5.each
 have hgW : (w5.setCell ⟨w.heap.size, 15, none⟩ (.slice a5 n5 c5)).heap[w.heap.size]? = some (ZD41 f a1 n1 c1 a2 n2 c2 a3 n3 c3 a4 n4 c4 a5 n5 c5) := st_set hg5 15 (.slice a5 n5 c5)
 have hB4 : w4.heap.size ≤ (w4.setCell ⟨w.heap.size, 13, none⟩ (.slice a4 n4 c4)).heap.size := by simp [World.setCell]
 have hzW := (heap_setCell_other w5 ⟨w.heap.size, 15, none⟩ (w.heap.size + 1) (.slice a5 n5 c5) (by simp)).trans hz5
 have bbW := bb5.setCell (p := ⟨w.heap.size, 15, none⟩) (Nat.le_refl _) (.slice a5 n5 c5)
 have hrW := ownsRow_setCell_below hr5 (a := ⟨w.heap.size, 15, none⟩) (by show w.heap.size < _; omega) (.slice a5 n5 c5)
 rw [hn5] at hrW
 clear hs5 hr5 hf5 hc5 hb5
 have zW : (w5.setCell ⟨w.heap.size, 15, none⟩ (.slice a5 n5 c5)).heap.size = w5.heap.size := by simp [World.setCell]
 have hk6 : TxnsR A (w5.setCell ⟨w.heap.size, 15, none⟩ (.slice a5 n5 c5)) subs rows := h6.kept fun b hb => bbW.block b (hA b hb)
 replace hs1 := hs1.kept (w' := w5.setCell ⟨w.heap.size, 15, none⟩ (.slice a5 n5 c5)) (fun b hb => heap_setCell_other w5 _ b _ (by simp; omega))
 replace hs2 := hs2.kept (w' := w5.setCell ⟨w.heap.size, 15, none⟩ (.slice a5 n5 c5)) (fun b hb => heap_setCell_other w5 _ b _ (by simp; omega))
 replace hs3 := hs3.kept (w' := w5.setCell ⟨w.heap.size, 15, none⟩ (.slice a5 n5 c5)) (fun b hb => heap_setCell_other w5 _ b _ (by simp; omega))
 replace hs4 := hs4.kept (w' := w5.setCell ⟨w.heap.size, 15, none⟩ (.slice a5 n5 c5)) (fun b hb => heap_setCell_other w5 _ b _ (by simp; omega))
 generalize w5.setCell ⟨w.heap.size, 15, none⟩ (.slice a5 n5 c5) = W0 at *
 generalize (w4.setCell ⟨w.heap.size, 13, none⟩ (.slice a4 n4 c4)).heap.size = B5 at *
 go_loopw [30] (ClonedInv subs rows n5 B5 (.slice a5 n5 c5) W0) (fun i _ => n5 - (intOf i).toNat)
 case atStart => exact ⟨0, [], rfl, rfl, Nat.zero_le _, by rw [List.take_zero, TxnsR], by simpa using hrW, Below.refl _ _⟩
 case round =>
  obtain ⟨k, news, rfl, hl, hkn, hnews, hown, hbel⟩ := hrel
  by_cases hlt : k < n5
  ·obtain ⟨⟨f', subs'⟩, ht'⟩ : ∃ t, subs[k]? = some t := ⟨_, List.getElem?_eq_getElem (by have := h6.len; omega)⟩
   obtain ⟨r, hr, hR⟩ := hk6.get ht'
   have hR' : TxnR A wr (.mk f' subs') r := hR.kept fun b hb => hbel.block b (by have := hA b hb; omega)
   have hok' := hso.get ht'
   have hsz' : SizeOf.sizeOf (TxnD.mk f' subs') < N := by have := List.sizeOf_lt_of_mem (List.mem_of_getElem? ht'); simp at hN this ⊢; omega
   have hAr : ∀ b, A b → b < wr.heap.size := fun b hb => by have := hA b hb; have := hbel.size; omega
   have hdrop : (rows.drop k).flatten = r ++ (rows.drop (k + 1)).flatten := by
    obtain ⟨hk1, hk2⟩ := List.getElem?_eq_some_iff.1 hr
    rw [List.drop_eq_getElem_cons hk1, hk2, List.flatten_cons]
   have hlenf : news.flatten.length = k * 16 := by rw [flat_length hnews.each, hl]
   rw [hdrop, ← List.append_assoc] at hown
   obtain ⟨b5, rfl⟩ : ∃ b5, a5 = some ⟨b5, 0, none⟩ := by
    rcases hown.2 with ⟨h, h'⟩ | ⟨g, cap, cur, h, _⟩
    ·omega
    ·cases h; exact ⟨_, rfl⟩
   have hran := own_range hown
   have hthe := own_there hown
   rw [hlenf] at hran hthe
   rw [TxnR] at hR
   obtain ⟨vd', va', vi', vp', vs', rows', rfl, q1, q2, q3, q4, q5, q6⟩ := hR
   obtain ⟨ad', nd', cd', rfl⟩ := q1.slice
   obtain ⟨aa', na', ca', rfl⟩ := q2.slice
   obtain ⟨ai', ni', ci', rfl⟩ := q3.slice
   obtain ⟨ap', np', cp', rfl⟩ := q4.slice
   obtain ⟨as', ns', cs', rfl⟩ := q5.slice
   clear q1 q2 q3 q4 q5 q6
   have hgr := (hbel.block w.heap.size (by omega)).trans hgW
   have hcell := st_at hgr (k := 15) (v := .slice (some ⟨b5, 0, none⟩) n5 c5) rfl
   unfold TxnF.cells at hran hthe hR'
   simp only [List.length_cons, List.length_nil] at hthe
   go_wp2_with (with_reducible refine wpList_load_mid rfl 33 (.tmp 33) rfl b5 (k * 16) rfl _ _ hran Tryz.underlying33 rfl (by kernel_rfl) ?_)
   have hbx := heap_alloc_new wr (.cells #[.int .i32 f'.type, .string f'.path, .slice ad' nd' cd', .slice aa' na' ca', .int .i64 f'.owner, .int .i32 f'.version, .int .i32 f'.creates, .bool f'.has, .int .i64 f'.count, .int .i64 f'.bytes, .int .i64 f'.sid, .int .i32 f'.timeout, .slice ai' ni' ci', .slice ap' np' cp', .int .i32 f'.code, .slice as' ns' cs'] 33)
   have hown2 := hown.alloc (.cells #[.int .i32 f'.type, .string f'.path, .slice ad' nd' cd', .slice aa' na' ca', .int .i64 f'.owner, .int .i32 f'.version, .int .i32 f'.creates, .bool f'.has, .int .i64 f'.count, .int .i64 f'.bytes, .int .i64 f'.sid, .int .i32 f'.timeout, .slice ai' ni' ci', .slice ap' np' cp', .int .i32 f'.code, .slice as' ns' cs'] 33)
   have hbl2 := (Below.refl wr.heap.size wr).alloc (Nat.le_refl _) (.cells #[.int .i32 f'.type, .string f'.path, .slice ad' nd' cd', .slice aa' na' ca', .int .i64 f'.owner, .int .i32 f'.version, .int .i32 f'.creates, .bool f'.has, .int .i64 f'.count, .int .i64 f'.bytes, .int .i64 f'.sid, .int .i32 f'.timeout, .slice ai' ni' ci', .slice ap' np' cp', .int .i32 f'.code, .slice as' ns' cs'] 33)
   have hszb := World.size_alloc wr (.cells #[.int .i32 f'.type, .string f'.path, .slice ad' nd' cd', .slice aa' na' ca', .int .i64 f'.owner, .int .i32 f'.version, .int .i32 f'.creates, .bool f'.has, .int .i64 f'.count, .int .i64 f'.bytes, .int .i64 f'.sid, .int .i32 f'.timeout, .slice ai' ni' ci', .slice ap' np' cp', .int .i32 f'.code, .slice as' ns' cs'] 33)
   generalize (wr.alloc (.cells #[.int .i32 f'.type, .string f'.path, .slice ad' nd' cd', .slice aa' na' ca', .int .i64 f'.owner, .int .i32 f'.version, .int .i32 f'.creates, .bool f'.has, .int .i64 f'.count, .int .i64 f'.bytes, .int .i64 f'.sid, .int .i32 f'.timeout, .slice ai' ni' ci', .slice ap' np' cp', .int .i32 f'.code, .slice as' ns' cs'] 33)) = Wb at *
   have hA2 : ∀ b, A b → b < Wb.heap.size := fun b hb => by have := hAr b hb; omega
   have hR2 := hR'.kept fun b hb => hbl2.block b (hAr b hb)
   have hgb := (hbl2.block w.heap.size (by have := hbel.size; omega)).trans hgr
   have hcb := st_at hgb (k := 15) (v := .slice (some ⟨b5, 0, none⟩) n5 c5) rfl
   have hrb := st_range hbx
   unfold TxnF.cells at hown2
   have htb := own_there hown2
   rw [hlenf] at htb
   have htb : Wb.there b5 (k * 16) 16 := htb
   have hgr' := hgr
   clear hran hthe hcell hgr hR'
   have hu := Tryz.underlying33
   have hi33 : (Tryz.prog.info? 33).map (·.size) = some 16 := by kernel_rfl
   have hi : (Tryz.prog.info? 33).map (·.size) = some ([.int .i32 f'.type, .string f'.path, .slice ad' nd' cd', .slice aa' na' ca', .int .i64 f'.owner, .int .i32 f'.version, .int .i32 f'.creates, .bool f'.has, .int .i64 f'.count, .int .i64 f'.bytes, .int .i64 f'.sid, .int .i32 f'.timeout, .slice ai' ni' ci', .slice ap' np' cp', .int .i32 f'.code, .slice as' ns' cs'] : List Value).length := hi33
   have hrb' : Wb.rangeAt wr.heap.size 0 [.int .i32 f'.type, .string f'.path, .slice ad' nd' cd', .slice aa' na' ca', .int .i64 f'.owner, .int .i32 f'.version, .int .i32 f'.creates, .bool f'.has, .int .i64 f'.count, .int .i64 f'.bytes, .int .i64 f'.sid, .int .i32 f'.timeout, .slice ai' ni' ci', .slice ap' np' cp', .int .i32 f'.code, .slice as' ns' cs'] := hrb
   clear hrb hbx
   have htb' : Wb.there b5 (k * 16) 16 := htb
   generalize hL : ([.int .i32 f'.type, .string f'.path, .slice ad' nd' cd', .slice aa' na' ca', .int .i64 f'.owner, .int .i32 f'.version, .int .i32 f'.creates, .bool f'.has, .int .i64 f'.count, .int .i64 f'.bytes, .int .i64 f'.sid, .int .i32 f'.timeout, .slice ai' ni' ci', .slice ap' np' cp', .int .i32 f'.code, .slice as' ns' cs'] : List Value) = L at *
   refine wp_region_held_drew (S := fun w' => w'.cell? ⟨w.heap.size, 15, none⟩ = some (.slice (some ⟨b5, 0, none⟩) n5 c5) ∧ w'.rangeAt wr.heap.size 0 L ∧ w'.there b5 (k * 16) 16) (by kernel_rfl) ⟨hcb, hrb', htb'⟩ (fun hHeld => ?_)
   refine wpAnyH_take (i := 0) (v := .pointer (some ⟨w.heap.size, 15, none⟩)) rfl (by kernel_rfl) (by kernel_rfl) (by kernel_rfl) (fun _ _ _ h => h) (Or.inl ⟨by rfl, fun w hSw => by go_simp⟩) hHeld ?_
   refine wpAnyH_take (i := 1) (v := .slice (some ⟨b5, 0, none⟩) n5 c5) rfl (by kernel_rfl) (by kernel_rfl) (by kernel_rfl) (fun _ _ _ h => h) (Or.inl ⟨by rfl, fun w hSw => by obtain ⟨hS1, _, _⟩ := hSw; go_simp⟩) hHeld ?_
   refine wpAnyH_take (i := 2) (v := .int .i64 k) rfl (by kernel_rfl) (by kernel_rfl) (by kernel_rfl) (fun _ _ _ h => h) (Or.inl ⟨by rfl, fun w hSw => by go_simp⟩) hHeld ?_
   refine wpAnyH_take (i := 3) (v := .agg L.toArray) rfl (by kernel_rfl) (by kernel_rfl) (by kernel_rfl) (fun _ _ _ h => h) (yieldsIf_load_mid (by rfl) 33 (.tmp 4) rfl wr.heap.size 0 rfl L _ (fun w hSw => hSw.2.1) hu rfl hi) hHeld ?_
   simp only [Act.put, List.setIfInBounds_toArray]
   refine wpAnyH_ready (rs := [4]) (by kernel_rfl) (by simp) ?_
   refine AllReadyH.cons (o := { dst := some 39, op := Op.call { callee := Callee.value (Operand.func 30), args := #[Operand.tmp 38], argTypes := #[33] }, type := 33, pos := "delta.go:197", after := #[{ on := 3, ground := Ground.data }], guard := none }) rfl (fun K hK => ?_) AllReadyH.nil
   go_simp
   refine (ih (.mk f' subs') A L Wb.drew hsz' hok' (TxnR.kept (w := Wb) (w' := Wb.drew) (fun _ _ => rfl) hR2) hA2).mono ?_
   rintro e w6 ⟨cs2, rfl, hb6d, hQ6⟩
   have hb6 : Below Wb.heap.size Wb w6 := (Below.refl _ Wb).drew.trans hb6d
   have hi2 : (Tryz.prog.info? 33).map (·.size) = some cs2.toArray.size := hi33.trans (by simp [hQ6.length])
   have ho2 := hQ6.one
   have hgb6 : w.heap.size < Wb.heap.size := by have := hbel.size; omega
   have hb5b : b5 < Wb.heap.size := (hown2.lt b5 rfl).2
   have ht6 : w6.there b5 (k * 16) 16 := there_below htb' hb6 hb5b
   refine hK.out _ _ ⟨(hb6.cell (p := ⟨w.heap.size, 15, none⟩) hgb6).trans hcb, range_below hrb' hb6 (by show wr.heap.size < Wb.heap.size; omega), ht6⟩ (fun hHeld => ?_)
   clear hK K
   refine wpAnyH_take (i := 5) (oi := { dst := some 40, op := Op.indexAddr 31 (Operand.tmp 36) (Operand.tmp 37), type := 0, pos := "delta.go:197", after := #[{ on := 1, ground := Ground.data }, { on := 2, ground := Ground.data }, { on := 0, ground := Ground.phase }, { on := 1, ground := Ground.phase }, { on := 2, ground := Ground.phase }, { on := 3, ground := Ground.phase }, { on := 4, ground := Ground.phase }], guard := none }) (v := .pointer (some ⟨b5, k * 16, none⟩)) rfl (by kernel_rfl) (by kernel_rfl) (by kernel_rfl) (fun _ _ _ h => h) (Or.inl ⟨by rfl, fun w hSw => by go_simp⟩) hHeld ?_
   simp only [Act.put, List.setIfInBounds_toArray]
   refine wpAnyH_ready (rs := [6]) (by kernel_rfl) (by simp) ?_
   refine AllReadyH.cons (o := { dst := none, op := Op.store 33 (Operand.tmp 40) (Operand.tmp 39), type := 0, pos := "delta.go:197", after := #[{ on := 5, ground := Ground.data }, { on := 4, ground := Ground.data }, { on := 4, ground := Ground.chain }, { on := 0, ground := Ground.phase }, { on := 1, ground := Ground.phase }, { on := 2, ground := Ground.phase }, { on := 3, ground := Ground.phase }, { on := 4, ground := Ground.phase }], guard := none }) rfl (fun K hK => ?_) AllReadyH.nil
   rw [if_pos (by rfl)]
   refine wp_store_mid 33 (.tmp 40) (.tmp 39) rfl b5 (k * 16) cs2.toArray rfl rfl (by simpa [hQ6.length] using ht6) hi2 (all_oneCell_toArray ho2) ?_
   have hown6 := own_below hown2 hb6 (fun k hk => by cases hk; exact hb5b)
   have hl2 : cs2.length = 16 := hQ6.length
   have hL2 : L.length = 16 := hR2.length
   obtain ⟨hown7, hg7⟩ := own_setCells cs2 L hown6 (by omega)
   rw [hlenf] at hown7 hg7
   have hb5B : B5 ≤ b5 ∧ b5 < W0.heap.size := hrW.lt b5 rfl
   have hbr : ∀ b, b < wr.heap.size → b ≠ b5 → (w6.setCells b5 (k * 16) cs2).heap[b]? = wr.heap[b]? := fun b hb hne => by
    rw [hg7.block b (by have := hb6.size; omega) (by simpa using hne), hb6.block b (by omega), hbl2.block b hb]
   have hbel7 : Below B5 W0 (w6.setCells b5 (k * 16) cs2) :=
    (((hbel.trans (hbl2.mono (by have := hbel.size; omega))).trans (hb6.mono (by have := hbel.size; omega))).grown hg7 (by have := hbel.size; have := hb6.size; omega) (fun k hk => by cases hk; exact hb5B.1))
   have hsz7 : wr.heap.size + 1 ≤ w6.heap.size := by have := hb6.size; omega
   have hsz8 := hg7.size
   have hn7 : TxnsR (fun b => W0.heap.size ≤ b ∧ b < (w6.setCells b5 (k * 16) cs2).heap.size) (w6.setCells b5 (k * 16) cs2) (subs.take (k + 1)) (news ++ [cs2]) := by
    have htk : subs.take (k + 1) = subs.take k ++ [.mk f' subs'] := by
     obtain ⟨hk1, hk2⟩ := List.getElem?_eq_some_iff.1 ht'
     rw [List.take_succ_eq_append_getElem hk1, hk2]
    rw [htk]
    refine TxnsR.snoc ?_ ?_
    ·exact (hnews.kept (fun b hb => hbr b hb.2 (by omega))).mono (fun b hb => ⟨hb.1, by omega⟩)
    ·refine (hQ6.kept (fun b hb => hg7.block b hb.2 ?_)).mono (fun b hb => ⟨?_, by omega⟩)
     ·have h1 : Wb.heap.size ≤ b := hb.1
      have := hbel.size
      simp only [ne_eq, Option.some.injEq]; omega
     ·have h1 : Wb.heap.size ≤ b := hb.1
      have := hbel.size
      omega
   have hInv : ClonedInv subs rows n5 B5 (.slice (some ⟨b5, 0, none⟩) n5 c5) W0 (.int .i64 ((k + 1 : Nat) : Int)) (w6.setCells b5 (k * 16) cs2) :=
    ⟨k + 1, news ++ [cs2], rfl, by simp [hl], by omega, hn7, by rw [List.flatten_append, List.flatten_singleton]; exact hown7, hbel7⟩
   have ht7 : w6.there b5 (k * 16) 16 := ht6
   refine hK.out _ _ ⟨?_, ?_, ?_⟩ (fun hHeld => ?_)
   ·rw [List.toList_toArray]
    exact st_at ((hbr _ (by have := hbel.size; omega) (by omega)).trans hgr') (k := 15) (v := .slice (some ⟨b5, 0, none⟩) n5 c5) rfl
   ·exact World.rangeAt_setCells_apart (range_below hrb' hb6 (by show wr.heap.size < Wb.heap.size; omega)) _ _ _ (.inl (by have := hbel.size; omega))
   ·exact World.there_setCells ht7 _ _ _
   clear hK K hown7 hown6 hg7 hbr hbel7 hn7 ht7 ht6 hHeld
   refine wpAnyH_done (by kernel_rfl) ?_ _
   rw [List.toList_toArray]
   generalize w6.setCells b5 (k * 16) cs2 = W7 at *
   have hk0 : (0 : Int) ≤ k := Int.natCast_nonneg _
   have hkb : (k : Int) + 1 ≤ 1048577 := by omega
   go_wp2_with fail
   go_roundw
   case rel => exact hInv
   case measure => simp [intOf]; omega
  ·obtain rfl : k = n5 := by omega
   have hgr := (hbel.block w.heap.size (by omega)).trans hgW
   have hzr := (hbel.block (w.heap.size + 1) (by omega)).trans hzW
   go_wp2_with (first | (with_reducible refine wpList_load_row rfl 33 (.tmp 1) rfl w.heap.size rfl 33 _ (0, 0) _ hgr Tryz.underlying33 rfl (by kernel_rfl) ?_) | (with_reducible refine wpList_store_row rfl 33 (.tmp 2) (.tmp 42) rfl (w.heap.size + 1) _ rfl rfl 33 _ hzr (by kernel_rfl) (by kernel_rfl) (by kernel_rfl) ?_))
   have hrow := setRow_heap wr (w.heap.size + 1) _ #[.int .i32 f.type, .string f.path, .slice a1 n1 c1, .slice a2 n2 c2, .int .i64 f.owner, .int .i32 f.version, .int .i32 f.creates, .bool f.has, .int .i64 f.count, .int .i64 f.bytes, .int .i64 f.sid, .int .i32 f.timeout, .slice a3 n3 c3, .slice a4 n4 c4, .int .i32 f.code, .slice a5 k c5] 33 (0, 0) hzr
   have hko : ∀ b, b ≠ w.heap.size + 1 → (wr.setRow (w.heap.size + 1) #[.int .i32 f.type, .string f.path, .slice a1 n1 c1, .slice a2 n2 c2, .int .i64 f.owner, .int .i32 f.version, .int .i32 f.creates, .bool f.has, .int .i64 f.count, .int .i64 f.bytes, .int .i64 f.sid, .int .i32 f.timeout, .slice a3 n3 c3, .slice a4 n4 c4, .int .i32 f.code, .slice a5 k c5]).heap[b]? = wr.heap[b]? := fun b hb => setRow_other wr _ b _ hb
   have hbelR := below_setRow (bbW.trans (hbel.mono (by omega))) (g := w.heap.size + 1) (by omega) #[.int .i32 f.type, .string f.path, .slice a1 n1 c1, .slice a2 n2 c2, .int .i64 f.owner, .int .i32 f.version, .int .i32 f.creates, .bool f.has, .int .i64 f.count, .int .i64 f.bytes, .int .i64 f.sid, .int .i32 f.timeout, .slice a3 n3 c3, .slice a4 n4 c4, .int .i32 f.code, .slice a5 k c5]
   have hsz := hbel.size
   have hnil : (rows.drop k).flatten = [] := by rw [List.drop_eq_nil_of_le (by omega)]; rfl
   rw [hnil, List.append_nil] at hown
   have hsub := slr_own hown hl hnews.each
   have htk : subs.take k = subs := List.take_of_length_le (by have := h6.len; omega)
   rw [htk] at hnews
   have hszR : (wr.setRow (w.heap.size + 1) #[.int .i32 f.type, .string f.path, .slice a1 n1 c1, .slice a2 n2 c2, .int .i64 f.owner, .int .i32 f.version, .int .i32 f.creates, .bool f.has, .int .i64 f.count, .int .i64 f.bytes, .int .i64 f.sid, .int .i32 f.timeout, .slice a3 n3 c3, .slice a4 n4 c4, .int .i32 f.code, .slice a5 k c5]).heap.size = wr.heap.size := setRow_size _ _ _
   refine bodyPost_ret (v := .agg #[.int .i32 f.type, .string f.path, .slice a1 n1 c1, .slice a2 n2 c2, .int .i64 f.owner, .int .i32 f.version, .int .i32 f.creates, .bool f.has, .int .i64 f.count, .int .i64 f.bytes, .int .i64 f.sid, .int .i32 f.timeout, .slice a3 n3 c3, .slice a4 n4 c4, .int .i32 f.code, .slice a5 k c5]) (results_cell_row rfl _ _ (w.heap.size + 1) 33 _ (0, 0) _ rfl hrow Tryz.underlying33 rfl (by kernel_rfl)) rfl ?_
   generalize wr.setRow (w.heap.size + 1) _ = WR at *
   refine ⟨f.cells (.slice a1 n1 c1) (.slice a2 n2 c2) (.slice a3 n3 c3) (.slice a4 n4 c4) (.slice a5 k c5), rfl, hbelR, ?_⟩
   rw [TxnR]
   refine ⟨_, _, _, _, _, news, rfl, ?_, ?_, ?_, ?_, ?_, ?_⟩
   ·exact (hs1.kept fun b hb => (hko b (by omega)).trans (hbel.block b (by omega))).mono fun b hb => ⟨by omega, by omega⟩
   ·exact (hs2.kept fun b hb => (hko b (by omega)).trans (hbel.block b (by omega))).mono fun b hb => ⟨by omega, by omega⟩
   ·exact (hs3.kept fun b hb => (hko b (by omega)).trans (hbel.block b (by omega))).mono fun b hb => ⟨by omega, by omega⟩
   ·exact (hs4.kept fun b hb => (hko b (by omega)).trans (hbel.block b (by omega))).mono fun b hb => ⟨by omega, by omega⟩
   ·exact (hsub.kept fun b hb => hko b (by omega)).mono fun b hb => ⟨by omega, by omega⟩
   ·exact (hnews.kept fun b hb => hko b (by omega)).mono fun b hb => ⟨by omega, by omega⟩
theorem cloned_all : ∀ (N : Nat) (t : TxnD) (A : Nat → Prop) (cs : List Value) (w : World), SizeOf.sizeOf t < N → TxnOk t → TxnR A w t cs → (∀ b, A b → b < w.heap.size) → Calls Tryz.prog 30 #[.agg cs.toArray] w (ClonedPost t w)
 | 0, _, _, _, _, h, _, _, _ => absurd h (Nat.not_lt_zero _)
 | N + 1, .mk f subs, A, cs, w, hN, hok, hR, hA => by
  rw [TxnR] at hR
  obtain ⟨vd, va, vi, vp, vs, rows, rfl, h1, h2, h3, h4, h5, h6⟩ := hR
  exact cloned_step N (cloned_all N) f subs hN hok A vd va vi vp vs rows w hA h1 h2 h3 h4 h5 h6
theorem cloned_any (t : TxnD) (A : Nat → Prop) (cs : List Value) (w : World) (hok : TxnOk t) (hR : TxnR A w t cs) (hA : ∀ b, A b → b < w.heap.size) : Calls Tryz.prog 30 #[.agg cs.toArray] w (ClonedPost t w) :=
 cloned_all (SizeOf.sizeOf t + 1) t A cs w (Nat.lt_succ_self _) hok hR hA
end Go.Proofs.YtfgjiidbafdndaaGreatDoor
