/- A slice of one struct that is built in place. -/
import Derived.Test.YtfgjiidbafdndaaGreatDoorK2
import Derived.Test.YtfgjiidbafdndaaGreatDoorK1
import Derived.Deep.Upon
import Derived.Shelf.SlicesQ.Equal
namespace Go.Proofs.YtfgjiidbafdndaaGreatDoor
open Go.RowKit
theorem set_all : ∀ (cs : List Value) (k : Nat) (pre base : List Value), base.length = cs.length → pre.length = k →
  (cs.zipIdx k).foldl (fun (acc : Array Value) (x : Value × Nat) => acc.setIfInBounds (0 + x.2) x.1) (pre ++ base).toArray = (pre ++ cs).toArray
 | [], k, pre, base, hb, hp => by
  obtain rfl : base = [] := List.eq_nil_of_length_eq_zero hb
  rfl
 | c :: cs, k, pre, base, hb, hp => by
  rcases base with _ | ⟨b, bs⟩
  ·simp at hb
  ·rw [List.zipIdx_cons, List.foldl_cons]
   have : (pre ++ b :: bs).toArray.setIfInBounds (0 + k) c = ((pre ++ [c]) ++ bs).toArray := by
    apply Array.ext'
    simp [hp]
   rw [this, set_all cs (k + 1) (pre ++ [c]) bs (by simpa using hb) (by simp [hp])]
   simp
theorem run_slice1 {P : Program} (w : World) {t e : TypeId} {sz bytes : Nat} (S : SOf P t e sz bytes) (cs : List Value) (hcs : cs.length = sz) (hle : sz ≤ 16777216) :
  (Instr.buildSlice t 1 #[(0, .agg cs.toArray)]).run P w = .ok (.slice (some ⟨w.heap.size, 0, none⟩) 1 1) (w.alloc (.cells cs.toArray e)) := by
 obtain ⟨ht, i, z, hi, hz, hs, hby, hzs, hsz⟩ := S
 have hzr : (zeroValue e).run P w = .ok z w := by simp [zeroValue, typeInfo, hi, hz]
 have hsr : (Go.sizeOf e).run P w = .ok sz w := by simp [Go.sizeOf, typeInfo, hi, hs]
 have hur : (underlying t).run P w = .ok (.slice e) w := run_underlying ht w
 have hfill : Instr.fill (fun k => some (k * sz, sz)) ((Array.range (1 * sz)).map fun k => z.cells[k % z.cells.size]!) [(0, .agg cs.toArray)] = some cs.toArray := by
  unfold Instr.fill
  have hv : (Value.agg cs.toArray).cells = cs.toArray := rfl
  simp only [Nat.zero_mul, hv, List.size_toArray, hcs, ne_eq, not_true_eq_false, Array.size_map, Array.size_range, Nat.one_mul, Nat.zero_add]
  rw [if_neg (by simp)]
  unfold Instr.fill
  congr 1
  have := set_all cs 0 [] ((Array.range sz).map fun k => z.cells[k % z.cells.size]!).toList (by simp [hcs]) rfl
  simp only [List.nil_append, Array.toArray_toList] at this
  have e2 : (cs.toArray.zipIdx.foldl (fun (acc : Array Value) (x : Value × Nat) => acc.setIfInBounds (0 + x.2) x.1) ((Array.range sz).map fun k => z.cells[k % z.cells.size]!)) = cs.toArray := by
   rw [← Array.foldl_toList, Array.toList_zipIdx]
   exact this
  simp only [Nat.zero_add] at e2
  exact e2
 have hnle : ¬ (1 * sz > 2 ^ 24) := by omega
 have h0 : ¬ (1 * sz = 0) := by omega
 simp only [Instr.buildSlice, Sem.run_bind, hur, Result.andThen_ok, hsr, hnle, if_false, h0, hzr, Sem.run_pure, hfill]
 rfl
theorem wpList_slice1 {P : Program} {w : World} {t e : TypeId} {sz bytes : Nat} (S : SOf P t e sz bytes) {ops : Array Oper} {rest : List Oper} {o : Oper} {a : Act} {Q : Exit → Act → World → Prop} (hgd : o.guard = none) (x : Operand)
  (ho : o.op = .buildSlice t 1 #[(0, x)]) (cs : List Value) (hx : a.eval x = .agg cs.toArray) (hcs : cs.length = sz) (hle : sz ≤ 16777216)
  (h : wpList P ops Q rest (a.put o.dst (.slice (some ⟨w.heap.size, 0, none⟩) 1 1)) (w.alloc (.cells cs.toArray e))) : wpList P ops Q (o :: rest) a w :=
 wpList_plain hgd fun _ hK => by
  unfold Oper.wp execOp
  simp only [ho, List.map_toArray, List.map_cons, List.map_nil, hx, run_slice1 w S cs hcs hle, Sem.run_bind, Sem.run_pure, Result.andThen_ok]
  exact hK _ _ h
set_option maxHeartbeats 8000000
set_option maxRecDepth 100000
theorem slr_rd {A : Nat → Prop} {w : World} {sz n c : Nat} {a : Option Addr} {rows : List (List Value)} (h : SlR A w sz (.slice a n c) rows) (E : TypeId) : Rd (w.alloc (.cells #[] E)) sz a n rows.flatten := by
 obtain ⟨⟨a', n', c', h1, h2, h3, h4, h5, h6, _⟩, _⟩ := h
 cases h1
 exact rd_alloc h6 _
theorem slr_nil {A : Nat → Prop} {w : World} {sz n c : Nat} {a : Option Addr} {rows : List (List Value)} (h : SlR A w sz (.slice a n c) rows) : n = 0 → a = none → c = 0 := by
 obtain ⟨⟨a', n', c', h1, h2, h3, h4, h5, h6, _⟩, _⟩ := h
 cases h1
 exact fun _ ha => h5 ha
theorem clone_app {w W w1 : World} {E sz n : Nat} {v1 : Value} {rows : List (List Value)} (hsz : w.heap.size + 2 ≤ W.heap.size) (hbb : Below w.heap.size w W) (hown : w1.ownsRow (w.heap.size + 2) E sz v1 (0 + n) ([] ++ rows.flatten)) {blk : Nat} (hk : W.heap.size = blk) (hg : (W.alloc (.cells #[] E)).grownBy w1 (some blk)) (hn : rows.length = n) (he : ∀ r ∈ rows, r.length = sz) :
  SlR (fun b => w.heap.size + 2 ≤ b ∧ b < w1.heap.size) w1 sz v1 rows ∧ (∀ b, b < W.heap.size → w1.heap[b]? = W.heap[b]?) ∧ W.heap.size ≤ w1.heap.size ∧ Below w.heap.size w w1 := by
 subst hk
 rw [Nat.zero_add, List.nil_append] at hown
 have hs := hg.size
 rw [World.size_alloc] at hs
 refine ⟨slr_own hown hn he, fun b hb => ?_, by omega, (hbb.alloc (by omega) _).grown hg (by simp; omega) (fun k hk => by cases hk; omega)⟩
 rw [hg.block b (by simp; omega) (by simp; omega)]; exact (Below.refl W.heap.size W |>.alloc (Nat.le_refl _) _).block b hb
def clonetxnInv (subs : List TxnD) (W0 : World) (v i : Value) (W : World) : Prop :=
 ∃ (k : Nat) (news : List (List Value)), i = .int .i64 k ∧ news.length = k ∧ k ≤ subs.length ∧ TxnsR (fun b => W0.heap.size ≤ b ∧ b < W.heap.size ∧ v.ownBlock ≠ some b) W (subs.take k) news ∧
  W.ownsRow W0.heap.size 33 16 v k news.flatten ∧ Below W0.heap.size W0 W
abbrev ZD70 : Obj := (.cells #[.int .i32 0, .string ⟨#[]⟩, .slice none 0 0, .slice none 0 0, .int .i64 0, .int .i32 0, .int .i32 0, .bool false, .int .i64 0, .int .i64 0, .int .i64 0, .int .i32 0, .slice none 0 0, .slice none 0 0, .int .i32 0, .slice none 0 0] 33)
abbrev ZD71 (x0 : TxnF) (x1 : Option Addr) (x2 x3 : Nat) (x4 : Option Addr) (x5 x6 : Nat) (x7 : Option Addr) (x8 x9 : Nat) (x10 : Option Addr) (x11 x12 : Nat) (x13 : Option Addr) (x14 x15 : Nat) : Array Value := #[.int .i32 x0.type, .string x0.path, .slice x1 x2 x3, .slice x4 x5 x6, .int .i64 x0.owner, .int .i32 x0.version, .int .i32 x0.creates, .bool x0.has, .int .i64 x0.count, .int .i64 x0.bytes, .int .i64 x0.sid, .int .i32 x0.timeout, .slice x7 x8 x9, .slice x10 x11 x12, .int .i32 x0.code, .slice x13 x14 x15]
abbrev ZD72 (x0 x1 : World) (x2 : Option Addr) (x3 x4 : Nat) : World := (x0.setCell ⟨x1.heap.size, 12, none⟩ (.slice x2 x3 x4))
abbrev ZD73 (x0 x1 : World) (x2 : Option Addr) (x3 x4 : Nat) : World := (x0.setCell ⟨x1.heap.size, 3, none⟩ (.slice x2 x3 x4))
abbrev ZD74 (x0 x1 : World) (x2 : Option Addr) (x3 x4 : Nat) : World := (x0.setCell ⟨x1.heap.size, 2, none⟩ (.slice x2 x3 x4))
theorem clonetxn_step (N : Nat) (ih : ∀ (t : TxnD) (A : Nat → Prop) (cs : List Value) (w : World), SizeOf.sizeOf t < N → TxnOk t → TxnR A w t cs → (∀ b, A b → b < w.heap.size) → Calls Tryz.prog 14 #[.agg cs.toArray] w (ClonedPost t w))
  (f : TxnF) (subs : List TxnD) (hN : SizeOf.sizeOf (TxnD.mk f subs) < N + 1) (hok : TxnOk (.mk f subs)) (A : Nat → Prop) (v1 v2 v3 v4 v5 : Value) (rows : List (List Value)) (w : World) (hA : ∀ b, A b → b < w.heap.size)
  (h1 : SlR A w 1 v1 (f.data.map byteCells))
  (h2 : SlR A w 3 v2 (f.acl.map AclD.cells))
  (h3 : SlR A w 2 v3 (f.ids.map IdD.cells))
  (h4 : SlR A w 1 v4 (f.paths.map strCells))
  (h5 : SlR A w 16 v5 rows) (h6 : TxnsR A w subs rows) :
  Calls Tryz.prog 14 #[.agg (f.cells v1 v2 v3 v4 v5).toArray] w (ClonedPost (.mk f subs) w) := by
 rw [TxnOk] at hok
 obtain ⟨hf, hsl, hso⟩ := hok
 have l5 : rows.length = subs.length := h6.len
 obtain ⟨s1, ns1, cs1, rfl⟩ := h1.slice
 have l1 : RowKit.Hid ((f.data.map byteCells).length = ns1) := Lib.hid h1.len
 have m1 : ns1 ≤ 1048576 := by rw [← l1.out]; simpa using hf.data
 obtain ⟨s2, ns2, cs2, rfl⟩ := h2.slice
 have l2 : RowKit.Hid ((f.acl.map AclD.cells).length = ns2) := Lib.hid h2.len
 have m2 : ns2 ≤ 1048576 := by rw [← l2.out]; simpa using hf.acl
 obtain ⟨s3, ns3, cs3, rfl⟩ := h3.slice
 have l3 : RowKit.Hid ((f.ids.map IdD.cells).length = ns3) := Lib.hid h3.len
 have m3 : ns3 ≤ 1048576 := by rw [← l3.out]; simpa using hf.ids
 obtain ⟨s4, ns4, cs4, rfl⟩ := h4.slice
 have l4 : RowKit.Hid ((f.paths.map strCells).length = ns4) := Lib.hid h4.len
 have m4 : ns4 ≤ 1048576 := by rw [← l4.out]; simpa using hf.paths
 obtain ⟨s5, ns5, cs5, rfl⟩ := h5.slice
 have l6 : RowKit.Hid (ns5 = subs.length) := Lib.hid (by rw [← l5]; exact h5.len.symm)
 replace l5 := Lib.hid l5
 unfold TxnF.cells
 go_enter Tryz.func14, Tryz.ntmps14
 have sz0 : w.heap.size + 2 ≤ ((w.alloc (.cells #[.int .i32 f.type, .string f.path, .slice s1 ns1 cs1, .slice s2 ns2 cs2, .int .i64 f.owner, .int .i32 f.version, .int .i32 f.creates, .bool f.has, .int .i64 f.count, .int .i64 f.bytes, .int .i64 f.sid, .int .i32 f.timeout, .slice s3 ns3 cs3, .slice s4 ns4 cs4, .int .i32 f.code, .slice s5 ns5 cs5] 33)).alloc ZD70).heap.size := by simp
 have e0 : ((w.alloc (.cells #[.int .i32 f.type, .string f.path, .slice s1 ns1 cs1, .slice s2 ns2 cs2, .int .i64 f.owner, .int .i32 f.version, .int .i32 f.creates, .bool f.has, .int .i64 f.count, .int .i64 f.bytes, .int .i64 f.sid, .int .i32 f.timeout, .slice s3 ns3 cs3, .slice s4 ns4 cs4, .int .i32 f.code, .slice s5 ns5 cs5] 33)).alloc ZD70).heap.size = w.heap.size + 1 + 1 := by simp
 have bb0 : Below w.heap.size w ((w.alloc (.cells #[.int .i32 f.type, .string f.path, .slice s1 ns1 cs1, .slice s2 ns2 cs2, .int .i64 f.owner, .int .i32 f.version, .int .i32 f.creates, .bool f.has, .int .i64 f.count, .int .i64 f.bytes, .int .i64 f.sid, .int .i32 f.timeout, .slice s3 ns3 cs3, .slice s4 ns4 cs4, .int .i32 f.code, .slice s5 ns5 cs5] 33)).alloc ZD70) := ((Below.refl w.heap.size w).alloc (Nat.le_refl _) _).alloc (by simp) _
 have hg0 := box_at w (.cells #[.int .i32 f.type, .string f.path, .slice s1 ns1 cs1, .slice s2 ns2 cs2, .int .i64 f.owner, .int .i32 f.version, .int .i32 f.creates, .bool f.has, .int .i64 f.count, .int .i64 f.bytes, .int .i64 f.sid, .int .i32 f.timeout, .slice s3 ns3 cs3, .slice s4 ns4 cs4, .int .i32 f.code, .slice s5 ns5 cs5] 33) ZD70
 have hz0 : ((w.alloc (.cells #[.int .i32 f.type, .string f.path, .slice s1 ns1 cs1, .slice s2 ns2 cs2, .int .i64 f.owner, .int .i32 f.version, .int .i32 f.creates, .bool f.has, .int .i64 f.count, .int .i64 f.bytes, .int .i64 f.sid, .int .i32 f.timeout, .slice s3 ns3 cs3, .slice s4 ns4 cs4, .int .i32 f.code, .slice s5 ns5 cs5] 33)).alloc ZD70).heap[w.heap.size + 1]? = some ZD70 := by have := heap_alloc_new (w.alloc (.cells #[.int .i32 f.type, .string f.path, .slice s1 ns1 cs1, .slice s2 ns2 cs2, .int .i64 f.owner, .int .i32 f.version, .int .i32 f.creates, .bool f.has, .int .i64 f.count, .int .i64 f.bytes, .int .i64 f.sid, .int .i32 f.timeout, .slice s3 ns3 cs3, .slice s4 ns4 cs4, .int .i32 f.code, .slice s5 ns5 cs5] 33)) ZD70; rwa [World.size_alloc] at this
 have ho0 := World.ownsRow_made ((w.alloc (.cells #[.int .i32 f.type, .string f.path, .slice s1 ns1 cs1, .slice s2 ns2 cs2, .int .i64 f.owner, .int .i32 f.version, .int .i32 f.creates, .bool f.has, .int .i64 f.count, .int .i64 f.bytes, .int .i64 f.sid, .int .i32 f.timeout, .slice s3 ns3 cs3, .slice s4 ns4 cs4, .int .i32 f.code, .slice s5 ns5 cs5] 33)).alloc ZD70) #[] (e := 5) (size := 1) (base := w.heap.size + 2) 0 sz0 (by decide) rfl
 rw [e0] at ho0
 have rd0 := slr_rd (h1.below hA bb0) 5
 have ni0 := slr_nil h1
 go_wp2_with (first
  | (at_builtin
     (refine wpList_app sBytes rfl (.tmp 5) (.tmp 7) rfl (w.heap.size + 2) _ 0 [] rfl ho0 s1 ns1 cs1 _ rfl rd0 ni0 (one_flatten (one_bytes _)) (by unfold maxLen; omega) (by omega) (by first | (simp; done) | (simp; omega)) ?_)
     intro u1 w1 hown1 gr1 hat1
     obtain ⟨hs1, kp1, le1, bb1⟩ := clone_app sz0 bb0 hown1 e0 gr1 l1.out h1.each
     obtain ⟨a1, n1, c1, rfl⟩ := hs1.slice
     have hg1 := (kp1 w.heap.size (by omega)).trans hg0
     have hz1 := (kp1 (w.heap.size + 1) (by omega)).trans hz0
     have hf1 := st_free hg1 2
     have hc1 := st_at hg1 (k := 2) (v := .slice s1 ns1 cs1) rfl
     have zz1 : (ZD74 w1 w a1 n1 c1).heap.size = w1.heap.size := by simp [World.setCell]
     have bb1' := bb1.setCell (p := ⟨w.heap.size, 2, none⟩) (Nat.le_refl _) (.slice a1 n1 c1)
     have sz1' : w.heap.size + 2 ≤ (ZD74 w1 w a1 n1 c1).heap.size := by omega
     have hg1' : (ZD74 w1 w a1 n1 c1).heap[w.heap.size]? = some (.cells #[.int .i32 f.type, .string f.path, .slice a1 n1 c1, .slice s2 ns2 cs2, .int .i64 f.owner, .int .i32 f.version, .int .i32 f.creates, .bool f.has, .int .i64 f.count, .int .i64 f.bytes, .int .i64 f.sid, .int .i32 f.timeout, .slice s3 ns3 cs3, .slice s4 ns4 cs4, .int .i32 f.code, .slice s5 ns5 cs5] 33) := st_set hg1 2 (.slice a1 n1 c1)
     have hz1' : (ZD74 w1 w a1 n1 c1).heap[w.heap.size + 1]? = some ZD70 := (heap_setCell_other w1 ⟨w.heap.size, 2, none⟩ (w.heap.size + 1) (.slice a1 n1 c1) (by simp)).trans hz1
     replace hs1 := (hs1.kept (w' := (ZD74 w1 w a1 n1 c1)) (fun b hb => heap_setCell_other w1 _ b _ (by simp; omega))).mono (B := fun b => w.heap.size + 2 ≤ b ∧ b < (ZD74 w1 w a1 n1 c1).heap.size) (fun b hb => ⟨hb.1, by omega⟩)
     have rd1 := slr_rd (h2.below hA bb1') 81
     have ni1 := slr_nil h2
     have ho1 := World.ownsRow_made (ZD74 w1 w a1 n1 c1) #[] (e := 81) (size := 3) (base := w.heap.size + 2) 0 sz1' (by decide) rfl
     rw [zz1] at ho1
     have hd1 : ((ZD74 w1 w a1 n1 c1).alloc (.cells #[] 81)).cell? ⟨w.heap.size, 3, none⟩ = some (.slice s2 ns2 cs2) := (World.cell?_alloc_lt (ZD74 w1 w a1 n1 c1) _ _ (by show w.heap.size < _; omega)).trans (st_at hg1' rfl)
     clear hown1 gr1 hat1 kp1 rd0 ni0 ho0)
  | (at_builtin
     (refine wpList_app sAcl rfl (.tmp 10) (.tmp 12) rfl (w.heap.size + 2) _ 0 [] rfl ho1 s2 ns2 cs2 _ rfl rd1 ni1 (one_flatten (one_acls _)) (by unfold maxLen; omega) (by omega) (by first | (simp; done) | (simp; omega)) ?_)
     intro u2 w2 hown2 gr2 hat2
     obtain ⟨hs2, kp2, le2, bb2⟩ := clone_app sz1' bb1' hown2 zz1 gr2 l2.out h2.each
     obtain ⟨a2, n2, c2, rfl⟩ := hs2.slice
     have hg2 := (kp2 w.heap.size (by omega)).trans hg1'
     have hz2 := (kp2 (w.heap.size + 1) (by omega)).trans hz1'
     have hf2 := st_free hg2 3
     have hc2 := st_at hg2 (k := 3) (v := .slice s2 ns2 cs2) rfl
     replace hs1 := (hs1.kept (w' := w2) (fun b hb => kp2 b (by omega))).mono (B := fun b => w.heap.size + 2 ≤ b ∧ b < w2.heap.size) (fun b hb => ⟨hb.1, by omega⟩)
     have zz2 : (ZD73 w2 w a2 n2 c2).heap.size = w2.heap.size := by simp [World.setCell]
     have bb2' := bb2.setCell (p := ⟨w.heap.size, 3, none⟩) (Nat.le_refl _) (.slice a2 n2 c2)
     have sz2' : w.heap.size + 2 ≤ (ZD73 w2 w a2 n2 c2).heap.size := by omega
     have hg2' : (ZD73 w2 w a2 n2 c2).heap[w.heap.size]? = some (.cells #[.int .i32 f.type, .string f.path, .slice a1 n1 c1, .slice a2 n2 c2, .int .i64 f.owner, .int .i32 f.version, .int .i32 f.creates, .bool f.has, .int .i64 f.count, .int .i64 f.bytes, .int .i64 f.sid, .int .i32 f.timeout, .slice s3 ns3 cs3, .slice s4 ns4 cs4, .int .i32 f.code, .slice s5 ns5 cs5] 33) := st_set hg2 3 (.slice a2 n2 c2)
     have hz2' : (ZD73 w2 w a2 n2 c2).heap[w.heap.size + 1]? = some ZD70 := (heap_setCell_other w2 ⟨w.heap.size, 3, none⟩ (w.heap.size + 1) (.slice a2 n2 c2) (by simp)).trans hz2
     replace hs1 := (hs1.kept (w' := (ZD73 w2 w a2 n2 c2)) (fun b hb => heap_setCell_other w2 _ b _ (by simp; omega))).mono (B := fun b => w.heap.size + 2 ≤ b ∧ b < (ZD73 w2 w a2 n2 c2).heap.size) (fun b hb => ⟨hb.1, by omega⟩)
     replace hs2 := (hs2.kept (w' := (ZD73 w2 w a2 n2 c2)) (fun b hb => heap_setCell_other w2 _ b _ (by simp; omega))).mono (B := fun b => w.heap.size + 2 ≤ b ∧ b < (ZD73 w2 w a2 n2 c2).heap.size) (fun b hb => ⟨hb.1, by omega⟩)
     have rd2 := slr_rd (h3.below hA bb2') 79
     have ni2 := slr_nil h3
     have ho2 := World.ownsRow_made (ZD73 w2 w a2 n2 c2) #[] (e := 79) (size := 2) (base := w.heap.size + 2) 0 sz2' (by decide) rfl
     rw [zz2] at ho2
     have hd2 : ((ZD73 w2 w a2 n2 c2).alloc (.cells #[] 79)).cell? ⟨w.heap.size, 12, none⟩ = some (.slice s3 ns3 cs3) := (World.cell?_alloc_lt (ZD73 w2 w a2 n2 c2) _ _ (by show w.heap.size < _; omega)).trans (st_at hg2' rfl)
     clear hown2 gr2 hat2 kp2 rd1 ni1 ho1 hd1)
  | (at_builtin
     (refine wpList_app sId rfl (.tmp 15) (.tmp 18) rfl (w.heap.size + 2) _ 0 [] rfl ho2 s3 ns3 cs3 _ rfl rd2 ni2 (one_flatten (one_ids _)) (by unfold maxLen; omega) (by omega) (by first | (simp; done) | (simp; omega)) ?_)
     intro u3 w3 hown3 gr3 hat3
     obtain ⟨hs3, kp3, le3, bb3⟩ := clone_app sz2' bb2' hown3 zz2 gr3 l3.out h3.each
     obtain ⟨a3, n3, c3, rfl⟩ := hs3.slice
     have hg3 := (kp3 w.heap.size (by omega)).trans hg2'
     have hz3 := (kp3 (w.heap.size + 1) (by omega)).trans hz2'
     have hf3 := st_free hg3 12
     have hc3 := st_at hg3 (k := 12) (v := .slice s3 ns3 cs3) rfl
     replace hs1 := (hs1.kept (w' := w3) (fun b hb => kp3 b (by omega))).mono (B := fun b => w.heap.size + 2 ≤ b ∧ b < w3.heap.size) (fun b hb => ⟨hb.1, by omega⟩)
     replace hs2 := (hs2.kept (w' := w3) (fun b hb => kp3 b (by omega))).mono (B := fun b => w.heap.size + 2 ≤ b ∧ b < w3.heap.size) (fun b hb => ⟨hb.1, by omega⟩)
     have zz3 : (ZD72 w3 w a3 n3 c3).heap.size = w3.heap.size := by simp [World.setCell]
     have bb3' := bb3.setCell (p := ⟨w.heap.size, 12, none⟩) (Nat.le_refl _) (.slice a3 n3 c3)
     have sz3' : w.heap.size + 2 ≤ (ZD72 w3 w a3 n3 c3).heap.size := by omega
     have hg3' : (ZD72 w3 w a3 n3 c3).heap[w.heap.size]? = some (.cells #[.int .i32 f.type, .string f.path, .slice a1 n1 c1, .slice a2 n2 c2, .int .i64 f.owner, .int .i32 f.version, .int .i32 f.creates, .bool f.has, .int .i64 f.count, .int .i64 f.bytes, .int .i64 f.sid, .int .i32 f.timeout, .slice a3 n3 c3, .slice s4 ns4 cs4, .int .i32 f.code, .slice s5 ns5 cs5] 33) := st_set hg3 12 (.slice a3 n3 c3)
     have hz3' : (ZD72 w3 w a3 n3 c3).heap[w.heap.size + 1]? = some ZD70 := (heap_setCell_other w3 ⟨w.heap.size, 12, none⟩ (w.heap.size + 1) (.slice a3 n3 c3) (by simp)).trans hz3
     replace hs1 := (hs1.kept (w' := (ZD72 w3 w a3 n3 c3)) (fun b hb => heap_setCell_other w3 _ b _ (by simp; omega))).mono (B := fun b => w.heap.size + 2 ≤ b ∧ b < (ZD72 w3 w a3 n3 c3).heap.size) (fun b hb => ⟨hb.1, by omega⟩)
     replace hs2 := (hs2.kept (w' := (ZD72 w3 w a3 n3 c3)) (fun b hb => heap_setCell_other w3 _ b _ (by simp; omega))).mono (B := fun b => w.heap.size + 2 ≤ b ∧ b < (ZD72 w3 w a3 n3 c3).heap.size) (fun b hb => ⟨hb.1, by omega⟩)
     replace hs3 := (hs3.kept (w' := (ZD72 w3 w a3 n3 c3)) (fun b hb => heap_setCell_other w3 _ b _ (by simp; omega))).mono (B := fun b => w.heap.size + 2 ≤ b ∧ b < (ZD72 w3 w a3 n3 c3).heap.size) (fun b hb => ⟨hb.1, by omega⟩)
     have rd3 := slr_rd (h4.below hA bb3') 9
     have ni3 := slr_nil h4
     have ho3 := World.ownsRow_made (ZD72 w3 w a3 n3 c3) #[] (e := 9) (size := 1) (base := w.heap.size + 2) 0 sz3' (by decide) rfl
     rw [zz3] at ho3
     have hd3 : ((ZD72 w3 w a3 n3 c3).alloc (.cells #[] 9)).cell? ⟨w.heap.size, 13, none⟩ = some (.slice s4 ns4 cs4) := (World.cell?_alloc_lt (ZD72 w3 w a3 n3 c3) _ _ (by show w.heap.size < _; omega)).trans (st_at hg3' rfl)
     clear hown3 gr3 hat3 kp3 rd2 ni2 ho2 hd2)
  | (at_builtin
     (refine wpList_app sStr rfl (.tmp 22) (.tmp 24) rfl (w.heap.size + 2) _ 0 [] rfl ho3 s4 ns4 cs4 _ rfl rd3 ni3 (one_flatten (one_strs _)) (by unfold maxLen; omega) (by omega) (by first | (simp; done) | (simp; omega)) ?_)
     intro u4 w4 hown4 gr4 hat4
     obtain ⟨hs4, kp4, le4, bb4⟩ := clone_app sz3' bb3' hown4 zz3 gr4 l4.out h4.each
     obtain ⟨a4, n4, c4, rfl⟩ := hs4.slice
     have hg4 := (kp4 w.heap.size (by omega)).trans hg3'
     have hz4 := (kp4 (w.heap.size + 1) (by omega)).trans hz3'
     have hf4 := st_free hg4 13
     have hc4 := st_at hg4 (k := 13) (v := .slice s4 ns4 cs4) rfl
     replace hs1 := (hs1.kept (w' := w4) (fun b hb => kp4 b (by omega))).mono (B := fun b => w.heap.size + 2 ≤ b ∧ b < w4.heap.size) (fun b hb => ⟨hb.1, by omega⟩)
     replace hs2 := (hs2.kept (w' := w4) (fun b hb => kp4 b (by omega))).mono (B := fun b => w.heap.size + 2 ≤ b ∧ b < w4.heap.size) (fun b hb => ⟨hb.1, by omega⟩)
     replace hs3 := (hs3.kept (w' := w4) (fun b hb => kp4 b (by omega))).mono (B := fun b => w.heap.size + 2 ≤ b ∧ b < w4.heap.size) (fun b hb => ⟨hb.1, by omega⟩)
     have zz4 : (w4.setCell ⟨w.heap.size, 13, none⟩ (.slice a4 n4 c4)).heap.size = w4.heap.size := by simp [World.setCell]
     have bb4' := bb4.setCell (p := ⟨w.heap.size, 13, none⟩) (Nat.le_refl _) (.slice a4 n4 c4)
     have sz4' : w.heap.size + 2 ≤ (w4.setCell ⟨w.heap.size, 13, none⟩ (.slice a4 n4 c4)).heap.size := by omega
     have hg4' : (w4.setCell ⟨w.heap.size, 13, none⟩ (.slice a4 n4 c4)).heap[w.heap.size]? = some (.cells #[.int .i32 f.type, .string f.path, .slice a1 n1 c1, .slice a2 n2 c2, .int .i64 f.owner, .int .i32 f.version, .int .i32 f.creates, .bool f.has, .int .i64 f.count, .int .i64 f.bytes, .int .i64 f.sid, .int .i32 f.timeout, .slice a3 n3 c3, .slice a4 n4 c4, .int .i32 f.code, .slice s5 ns5 cs5] 33) := st_set hg4 13 (.slice a4 n4 c4)
     have hz4' : (w4.setCell ⟨w.heap.size, 13, none⟩ (.slice a4 n4 c4)).heap[w.heap.size + 1]? = some ZD70 := (heap_setCell_other w4 ⟨w.heap.size, 13, none⟩ (w.heap.size + 1) (.slice a4 n4 c4) (by simp)).trans hz4
     replace hs1 := (hs1.kept (w' := (w4.setCell ⟨w.heap.size, 13, none⟩ (.slice a4 n4 c4))) (fun b hb => heap_setCell_other w4 _ b _ (by simp; omega))).mono (B := fun b => w.heap.size + 2 ≤ b ∧ b < (w4.setCell ⟨w.heap.size, 13, none⟩ (.slice a4 n4 c4)).heap.size) (fun b hb => ⟨hb.1, by omega⟩)
     replace hs2 := (hs2.kept (w' := (w4.setCell ⟨w.heap.size, 13, none⟩ (.slice a4 n4 c4))) (fun b hb => heap_setCell_other w4 _ b _ (by simp; omega))).mono (B := fun b => w.heap.size + 2 ≤ b ∧ b < (w4.setCell ⟨w.heap.size, 13, none⟩ (.slice a4 n4 c4)).heap.size) (fun b hb => ⟨hb.1, by omega⟩)
     replace hs3 := (hs3.kept (w' := (w4.setCell ⟨w.heap.size, 13, none⟩ (.slice a4 n4 c4))) (fun b hb => heap_setCell_other w4 _ b _ (by simp; omega))).mono (B := fun b => w.heap.size + 2 ≤ b ∧ b < (w4.setCell ⟨w.heap.size, 13, none⟩ (.slice a4 n4 c4)).heap.size) (fun b hb => ⟨hb.1, by omega⟩)
     replace hs4 := (hs4.kept (w' := (w4.setCell ⟨w.heap.size, 13, none⟩ (.slice a4 n4 c4))) (fun b hb => heap_setCell_other w4 _ b _ (by simp; omega))).mono (B := fun b => w.heap.size + 2 ≤ b ∧ b < (w4.setCell ⟨w.heap.size, 13, none⟩ (.slice a4 n4 c4)).heap.size) (fun b hb => ⟨hb.1, by omega⟩)
     clear hown4 gr4 hat4 kp4 rd3 ni3 ho3 hd3))
 generalize (w4.setCell ⟨w.heap.size, 13, none⟩ (.slice a4 n4 c4)) = W0 at *
 go_loopw [3, 4] (fun v i W => clonetxnInv subs W0 v i W) (fun _ i _ => subs.length - (intOf i).toNat)
 case atStart =>
  refine ⟨0, [], rfl, rfl, Nat.zero_le _, by rw [List.take_zero, TxnsR], ?_, (Below.refl _ _).alloc (Nat.le_refl _) _⟩
  have h := World.ownsRow_made W0 #[] (e := 33) (size := 16) (base := W0.heap.size) 0 (Nat.le_refl _) (by decide) rfl
  rw [zz4] at h ⊢; exact h
 case round =>
  obtain ⟨k, news, rfl, hl, hkn, hnews, hown, hbel⟩ := hrel
  have bbr := bb4'.trans (hbel.mono (by omega))
  have hgr := (hbel.block w.heap.size (by omega)).trans hg4'
  have hzr := (hbel.block (w.heap.size + 1) (by omega)).trans hz4'
  have hszr := hbel.size
  have hcell := st_at hgr (k := 15) (v := .slice s5 ns5 cs5) rfl
  by_cases hlt : k < subs.length
  ·have hltz : (k : Int) < ns5 := by rw [l6.out]; omega
   have hltn : k < ns5 := by omega
   obtain ⟨⟨f', subs'⟩, ht'⟩ : ∃ t, subs[k]? = some t := ⟨_, List.getElem?_eq_getElem hlt⟩
   obtain ⟨r, hr, hR⟩ := h6.get ht'
   obtain ⟨b, o, n', c', hv, hAb, hran⟩ := h5.row hr
   cases hv
   have hranr := range_below hran bbr (hA b hAb)
   have hR' : TxnR A wr (.mk f' subs') r := hR.kept fun b hb => bbr.block b (hA b hb)
   have hi : (Tryz.prog.info? 33).map (·.size) = some r.length := by rw [hR.length]; kernel_rfl
   have hok' := hso.get ht'
   have hsz' : SizeOf.sizeOf (TxnD.mk f' subs') < N := by have := List.sizeOf_lt_of_mem (List.mem_of_getElem? ht'); simp at hN this ⊢; omega
   have hAr : ∀ b, A b → b < wr.heap.size := fun b hb => by have := hA b hb; have := bbr.size; omega
   go_wp2_with (with_reducible refine wpList_load_mid rfl 33 (.tmp 39) rfl b (o + k * 16) rfl r _ hranr Tryz.underlying33 rfl hi ?_)
   refine (ih (.mk f' subs') A r wr hsz' hok' hR' hAr).mono ?_
   rintro e w6 ⟨cs, rfl, hb6, hQ6⟩
   have hcl : cs.length = 16 := hQ6.length
   have hone := hQ6.one
   have hs6 := hb6.size
   have hvb : ∀ q, u3.ownBlock = some q → W0.heap.size ≤ q ∧ q < wr.heap.size := hown.lt
   have hown7 := (own_below hown hb6 (fun q hq => (hvb q hq).2)).alloc (.cells cs.toArray 33)
   have rd7 : Rd (w6.alloc (.cells cs.toArray 33)) 16 (some ⟨w6.heap.size, 0, none⟩) 1 cs := ⟨by omega, fun _ => ⟨w6.heap.size, 0, rfl, fun j u hu => by rw [Nat.zero_add]; exact st_at (heap_alloc_new w6 (.cells cs.toArray 33)) (by simpa using hu)⟩⟩
   have hm5 : subs.length ≤ 1048576 := hsl
   go_wp2_with (first
    | (with_reducible refine wpList_slice1 sTxn rfl (.tmp 41) rfl cs rfl hcl (by decide) ?_)
    | (at_builtin
       (refine wpList_app sTxn rfl (.tmp 35) (.tmp 42) rfl W0.heap.size u3 k news.flatten rfl hown7 (some ⟨w6.heap.size, 0, none⟩) 1 1 cs rfl rd7 (fun h => by cases h) hone (by unfold maxLen; omega) (by omega) (by simp; omega) ?_)
       intro v8 w8 hown8 hg8 hat8))
   have hg8' := hg8.size
   rw [World.size_alloc] at hg8'
   have hkb : ∀ b, b < w6.heap.size → u3.ownBlock ≠ some b → w8.heap[b]? = w6.heap[b]? := fun b hb hne => by
    rw [hg8.block b (by simp; omega) (fun e => hne e.symm)]
    exact ((Below.refl w6.heap.size w6).alloc (Nat.le_refl _) _).block b hb
   have hne8 : ∀ b, b < w6.heap.size → u3.ownBlock ≠ some b → v8.ownBlock ≠ some b := fun b hb hne e => by
    rcases hat8 with h | h
    ·exact hne (h.symm.trans e)
    ·rw [World.size_alloc] at h
     have := h.symm.trans e
     simp only [Option.some.injEq] at this; omega
   have hI : clonetxnInv subs W0 v8 (.int .i64 ((k + 1 : Nat) : Int)) w8 := by
    refine ⟨k + 1, news ++ [cs], rfl, by simp [hl], by omega, ?_, by rw [List.flatten_append, List.flatten_singleton]; exact hown8, ((hbel.trans (hb6.mono (by omega))).alloc (by omega) _).grown hg8 (by simp; omega) (fun q hq => (hvb q hq).1)⟩
    have htk : subs.take (k + 1) = subs.take k ++ [.mk f' subs'] := by
     obtain ⟨hk1, hk2⟩ := List.getElem?_eq_some_iff.1 ht'
     rw [List.take_succ_eq_append_getElem hk1, hk2]
    rw [htk]
    refine TxnsR.snoc ?_ ?_
    ·exact (hnews.kept (fun b hb => (hkb b (by omega) hb.2.2).trans (hb6.block b hb.2.1))).mono (fun b hb => ⟨hb.1, by omega, hne8 b (by omega) hb.2.2⟩)
    ·have hno : ∀ b, wr.heap.size ≤ b → u3.ownBlock ≠ some b := fun b hb e => by have := hvb b e; omega
     exact (hQ6.kept (fun b hb => hkb b hb.2 (hno b hb.1))).mono (fun b hb => ⟨by have := hb.1; omega, by have := hb.2; omega, hne8 b hb.2 (hno b hb.1)⟩)
   have hk0 : (0 : Int) ≤ k := Int.natCast_nonneg _
   have hkb' : (k : Int) + 1 ≤ 1048577 := by omega
   clear hown8 hg8 hat8 hown7 rd7 hQ6 hb6 hkb hne8
   go_roundw
   case rel => exact hI
   case measure => simp [intOf]; omega
  ·obtain rfl : k = subs.length := by omega
   have hltz : ¬ ((subs.length : Int) < ns5) := by rw [l6.out]; omega
   obtain ⟨a5, n5, c5, rfl⟩ : ∃ a n c, u3 = .slice a n c := by
    rcases hown.2 with ⟨h, _⟩ | ⟨g, cap, cur, h, _⟩
    ·exact ⟨_, _, _, h⟩
    ·exact ⟨_, _, _, h⟩
   have hfr := st_free hgr 15
   have hgr2 : (wr.setCell ⟨w.heap.size, 15, none⟩ (.slice a5 n5 c5)).heap[w.heap.size]? = some (.cells (ZD71 f a1 n1 c1 a2 n2 c2 a3 n3 c3 a4 n4 c4 a5 n5 c5) 33) := st_set hgr 15 (.slice a5 n5 c5)
   have hzr2 : (wr.setCell ⟨w.heap.size, 15, none⟩ (.slice a5 n5 c5)).heap[w.heap.size + 1]? = some ZD70 := (heap_setCell_other wr ⟨w.heap.size, 15, none⟩ (w.heap.size + 1) (.slice a5 n5 c5) (by simp)).trans hzr
   have bbr2 := bbr.setCell (p := ⟨w.heap.size, 15, none⟩) (Nat.le_refl _) (.slice a5 n5 c5)
   go_wp2_with (first | (with_reducible refine wpList_load_row rfl 33 (.tmp 1) rfl w.heap.size rfl 33 _ (0, 0) _ hgr2 Tryz.underlying33 rfl (by kernel_rfl) ?_) | (with_reducible refine wpList_store_row rfl 33 (.tmp 2) (.tmp 46) rfl (w.heap.size + 1) _ rfl rfl 33 _ hzr2 (by kernel_rfl) (by kernel_rfl) (by kernel_rfl) ?_))
   have hko : ∀ b, w.heap.size + 2 ≤ b → ((wr.setCell ⟨w.heap.size, 15, none⟩ (.slice a5 n5 c5)).setRow (w.heap.size + 1) (ZD71 f a1 n1 c1 a2 n2 c2 a3 n3 c3 a4 n4 c4 a5 n5 c5)).heap[b]? = wr.heap[b]? := fun b hb => (setRow_other _ _ b _ (by omega)).trans (heap_setCell_other wr _ b _ (by simp; omega))
   have hrow := setRow_heap (wr.setCell ⟨w.heap.size, 15, none⟩ (.slice a5 n5 c5)) (w.heap.size + 1) _ (ZD71 f a1 n1 c1 a2 n2 c2 a3 n3 c3 a4 n4 c4 a5 n5 c5) 33 (0, 0) hzr2
   have hbelR := below_setRow bbr2 (g := w.heap.size + 1) (by omega) (ZD71 f a1 n1 c1 a2 n2 c2 a3 n3 c3 a4 n4 c4 a5 n5 c5)
   have hszR : ((wr.setCell ⟨w.heap.size, 15, none⟩ (.slice a5 n5 c5)).setRow (w.heap.size + 1) (ZD71 f a1 n1 c1 a2 n2 c2 a3 n3 c3 a4 n4 c4 a5 n5 c5)).heap.size = wr.heap.size := (setRow_size _ _ _).trans (by simp [World.setCell])
   have hsub := slr_own hown hl hnews.each
   have htk : subs.take subs.length = subs := List.take_length
   rw [htk] at hnews
   refine bodyPost_ret (v := .agg (ZD71 f a1 n1 c1 a2 n2 c2 a3 n3 c3 a4 n4 c4 a5 n5 c5)) (results_cell_row rfl _ _ (w.heap.size + 1) 33 _ (0, 0) _ rfl hrow Tryz.underlying33 rfl (by kernel_rfl)) rfl ?_
   generalize (wr.setCell ⟨w.heap.size, 15, none⟩ (.slice a5 n5 c5)).setRow (w.heap.size + 1) _ = WR at *
   refine ⟨f.cells (.slice a1 n1 c1) (.slice a2 n2 c2) (.slice a3 n3 c3) (.slice a4 n4 c4) (.slice a5 n5 c5), rfl, hbelR, ?_⟩
   rw [TxnR]
   refine ⟨_, _, _, _, _, news, rfl, ?_, ?_, ?_, ?_, ?_, ?_⟩
   ·exact (hs1.kept fun b hb => (hko b (by omega)).trans (hbel.block b (by omega))).mono fun b hb => ⟨by omega, by omega⟩
   ·exact (hs2.kept fun b hb => (hko b (by omega)).trans (hbel.block b (by omega))).mono fun b hb => ⟨by omega, by omega⟩
   ·exact (hs3.kept fun b hb => (hko b (by omega)).trans (hbel.block b (by omega))).mono fun b hb => ⟨by omega, by omega⟩
   ·exact (hs4.kept fun b hb => (hko b (by omega)).trans (hbel.block b (by omega))).mono fun b hb => ⟨by omega, by omega⟩
   ·exact (hsub.kept fun b hb => hko b (by omega)).mono fun b hb => ⟨by omega, by omega⟩
   ·exact (hnews.kept fun b hb => hko b (by omega)).mono fun b hb => ⟨by omega, by omega⟩
theorem clonetxn_all : ∀ (N : Nat) (t : TxnD) (A : Nat → Prop) (cs : List Value) (w : World), SizeOf.sizeOf t < N → TxnOk t → TxnR A w t cs → (∀ b, A b → b < w.heap.size) → Calls Tryz.prog 14 #[.agg cs.toArray] w (ClonedPost t w)
 | 0, _, _, _, _, h, _, _, _ => absurd h (Nat.not_lt_zero _)
 | N + 1, .mk f subs, A, cs, w, hN, hok, hR, hA => by
  rw [TxnR] at hR
  obtain ⟨v1, v2, v3, v4, v5, rows, rfl, h1, h2, h3, h4, h5, h6⟩ := hR
  exact clonetxn_step N (clonetxn_all N) f subs hN hok A v1 v2 v3 v4 v5 rows w hA h1 h2 h3 h4 h5 h6
theorem clonetxn_any (t : TxnD) (A : Nat → Prop) (cs : List Value) (w : World) (hok : TxnOk t) (hR : TxnR A w t cs) (hA : ∀ b, A b → b < w.heap.size) : Calls Tryz.prog 14 #[.agg cs.toArray] w (ClonedPost t w) :=
 clonetxn_all (SizeOf.sizeOf t + 1) t A cs w (Nat.lt_succ_self _) hok hR hA
def cloneresInv (subs : List ResD) (W0 : World) (v i : Value) (W : World) : Prop :=
 ∃ (k : Nat) (news : List (List Value)), i = .int .i64 k ∧ news.length = k ∧ k ≤ subs.length ∧ RessR (fun b => W0.heap.size ≤ b ∧ b < W.heap.size ∧ v.ownBlock ≠ some b) W (subs.take k) news ∧
  W.ownsRow W0.heap.size 40 22 v k news.flatten ∧ Below W0.heap.size W0 W
abbrev ZD80 : Obj := (.cells #[.int .i32 0, .int .i32 0, .string ⟨#[]⟩, .int .i64 0, .int .i64 0, .int .i64 0, .int .i64 0, .int .i32 0, .int .i32 0, .int .i32 0, .int .i64 0, .int .i32 0, .int .i32 0, .int .i64 0, .slice none 0 0, .slice none 0 0, .slice none 0 0, .int .i32 0, .int .i64 0, .int .i32 0, .slice none 0 0, .slice none 0 0] 40)
abbrev ZD81 (x0 : ResF) (x1 : Option Addr) (x2 x3 : Nat) (x4 : Option Addr) (x5 x6 : Nat) (x7 : Option Addr) (x8 x9 : Nat) (x10 : Option Addr) (x11 x12 : Nat) (x13 : Option Addr) (x14 x15 : Nat) : Array Value := #[.int .i32 x0.type, .int .i32 x0.code, .string x0.path, .int .i64 x0.czxid, .int .i64 x0.mzxid, .int .i64 x0.ctime, .int .i64 x0.mtime, .int .i32 x0.version, .int .i32 x0.cversion, .int .i32 x0.aversion, .int .i64 x0.owner, .int .i32 x0.dlen, .int .i32 x0.nkids, .int .i64 x0.pzxid, .slice x1 x2 x3, .slice x4 x5 x6, .slice x7 x8 x9, .int .i32 x0.count, .int .i64 x0.sid, .int .i32 x0.timeout, .slice x10 x11 x12, .slice x13 x14 x15]
abbrev ZD82 (x0 x1 : World) (x2 : Option Addr) (x3 x4 : Nat) : World := (x0.setCell ⟨x1.heap.size, 16, none⟩ (.slice x2 x3 x4))
abbrev ZD83 (x0 x1 : World) (x2 : Option Addr) (x3 x4 : Nat) : World := (x0.setCell ⟨x1.heap.size, 15, none⟩ (.slice x2 x3 x4))
abbrev ZD84 (x0 x1 : World) (x2 : Option Addr) (x3 x4 : Nat) : World := (x0.setCell ⟨x1.heap.size, 14, none⟩ (.slice x2 x3 x4))
theorem cloneres_step (N : Nat) (ih : ∀ (t : ResD) (A : Nat → Prop) (cs : List Value) (w : World), SizeOf.sizeOf t < N → ResOk t → ResR A w t cs → (∀ b, A b → b < w.heap.size) → Calls Tryz.prog 5 #[.agg cs.toArray] w (RClonedPost t w))
  (f : ResF) (subs : List ResD) (hN : SizeOf.sizeOf (ResD.mk f subs) < N + 1) (hok : ResOk (.mk f subs)) (A : Nat → Prop) (v1 v2 v3 v4 v5 : Value) (rows : List (List Value)) (w : World) (hA : ∀ b, A b → b < w.heap.size)
  (h1 : SlR A w 1 v1 (f.data.map byteCells))
  (h2 : SlR A w 3 v2 (f.acl.map AclD.cells))
  (h3 : SlR A w 1 v3 (f.names.map strCells))
  (h4 : SlR A w 2 v4 (f.ids.map IdD.cells))
  (h5 : SlR A w 22 v5 rows) (h6 : RessR A w subs rows) :
  Calls Tryz.prog 5 #[.agg (f.cells v1 v2 v3 v4 v5).toArray] w (RClonedPost (.mk f subs) w) := by
 rw [ResOk] at hok
 obtain ⟨hf, hsl, hso⟩ := hok
 have l5 : rows.length = subs.length := h6.len
 obtain ⟨s1, ns1, cs1, rfl⟩ := h1.slice
 have l1 : RowKit.Hid ((f.data.map byteCells).length = ns1) := Lib.hid h1.len
 have m1 : ns1 ≤ 1048576 := by rw [← l1.out]; simpa using hf.data
 obtain ⟨s2, ns2, cs2, rfl⟩ := h2.slice
 have l2 : RowKit.Hid ((f.acl.map AclD.cells).length = ns2) := Lib.hid h2.len
 have m2 : ns2 ≤ 1048576 := by rw [← l2.out]; simpa using hf.acl
 obtain ⟨s3, ns3, cs3, rfl⟩ := h3.slice
 have l3 : RowKit.Hid ((f.names.map strCells).length = ns3) := Lib.hid h3.len
 have m3 : ns3 ≤ 1048576 := by rw [← l3.out]; simpa using hf.names
 obtain ⟨s4, ns4, cs4, rfl⟩ := h4.slice
 have l4 : RowKit.Hid ((f.ids.map IdD.cells).length = ns4) := Lib.hid h4.len
 have m4 : ns4 ≤ 1048576 := by rw [← l4.out]; simpa using hf.ids
 obtain ⟨s5, ns5, cs5, rfl⟩ := h5.slice
 have l6 : RowKit.Hid (ns5 = subs.length) := Lib.hid (by rw [← l5]; exact h5.len.symm)
 replace l5 := Lib.hid l5
 unfold ResF.cells
 go_enter Tryz.func5, Tryz.ntmps5
 have sz0 : w.heap.size + 2 ≤ ((w.alloc (.cells #[.int .i32 f.type, .int .i32 f.code, .string f.path, .int .i64 f.czxid, .int .i64 f.mzxid, .int .i64 f.ctime, .int .i64 f.mtime, .int .i32 f.version, .int .i32 f.cversion, .int .i32 f.aversion, .int .i64 f.owner, .int .i32 f.dlen, .int .i32 f.nkids, .int .i64 f.pzxid, .slice s1 ns1 cs1, .slice s2 ns2 cs2, .slice s3 ns3 cs3, .int .i32 f.count, .int .i64 f.sid, .int .i32 f.timeout, .slice s4 ns4 cs4, .slice s5 ns5 cs5] 40)).alloc ZD80).heap.size := by simp
 have e0 : ((w.alloc (.cells #[.int .i32 f.type, .int .i32 f.code, .string f.path, .int .i64 f.czxid, .int .i64 f.mzxid, .int .i64 f.ctime, .int .i64 f.mtime, .int .i32 f.version, .int .i32 f.cversion, .int .i32 f.aversion, .int .i64 f.owner, .int .i32 f.dlen, .int .i32 f.nkids, .int .i64 f.pzxid, .slice s1 ns1 cs1, .slice s2 ns2 cs2, .slice s3 ns3 cs3, .int .i32 f.count, .int .i64 f.sid, .int .i32 f.timeout, .slice s4 ns4 cs4, .slice s5 ns5 cs5] 40)).alloc ZD80).heap.size = w.heap.size + 1 + 1 := by simp
 have bb0 : Below w.heap.size w ((w.alloc (.cells #[.int .i32 f.type, .int .i32 f.code, .string f.path, .int .i64 f.czxid, .int .i64 f.mzxid, .int .i64 f.ctime, .int .i64 f.mtime, .int .i32 f.version, .int .i32 f.cversion, .int .i32 f.aversion, .int .i64 f.owner, .int .i32 f.dlen, .int .i32 f.nkids, .int .i64 f.pzxid, .slice s1 ns1 cs1, .slice s2 ns2 cs2, .slice s3 ns3 cs3, .int .i32 f.count, .int .i64 f.sid, .int .i32 f.timeout, .slice s4 ns4 cs4, .slice s5 ns5 cs5] 40)).alloc ZD80) := ((Below.refl w.heap.size w).alloc (Nat.le_refl _) _).alloc (by simp) _
 have hg0 := box_at w (.cells #[.int .i32 f.type, .int .i32 f.code, .string f.path, .int .i64 f.czxid, .int .i64 f.mzxid, .int .i64 f.ctime, .int .i64 f.mtime, .int .i32 f.version, .int .i32 f.cversion, .int .i32 f.aversion, .int .i64 f.owner, .int .i32 f.dlen, .int .i32 f.nkids, .int .i64 f.pzxid, .slice s1 ns1 cs1, .slice s2 ns2 cs2, .slice s3 ns3 cs3, .int .i32 f.count, .int .i64 f.sid, .int .i32 f.timeout, .slice s4 ns4 cs4, .slice s5 ns5 cs5] 40) ZD80
 have hz0 : ((w.alloc (.cells #[.int .i32 f.type, .int .i32 f.code, .string f.path, .int .i64 f.czxid, .int .i64 f.mzxid, .int .i64 f.ctime, .int .i64 f.mtime, .int .i32 f.version, .int .i32 f.cversion, .int .i32 f.aversion, .int .i64 f.owner, .int .i32 f.dlen, .int .i32 f.nkids, .int .i64 f.pzxid, .slice s1 ns1 cs1, .slice s2 ns2 cs2, .slice s3 ns3 cs3, .int .i32 f.count, .int .i64 f.sid, .int .i32 f.timeout, .slice s4 ns4 cs4, .slice s5 ns5 cs5] 40)).alloc ZD80).heap[w.heap.size + 1]? = some ZD80 := by have := heap_alloc_new (w.alloc (.cells #[.int .i32 f.type, .int .i32 f.code, .string f.path, .int .i64 f.czxid, .int .i64 f.mzxid, .int .i64 f.ctime, .int .i64 f.mtime, .int .i32 f.version, .int .i32 f.cversion, .int .i32 f.aversion, .int .i64 f.owner, .int .i32 f.dlen, .int .i32 f.nkids, .int .i64 f.pzxid, .slice s1 ns1 cs1, .slice s2 ns2 cs2, .slice s3 ns3 cs3, .int .i32 f.count, .int .i64 f.sid, .int .i32 f.timeout, .slice s4 ns4 cs4, .slice s5 ns5 cs5] 40)) ZD80; rwa [World.size_alloc] at this
 have ho0 := World.ownsRow_made ((w.alloc (.cells #[.int .i32 f.type, .int .i32 f.code, .string f.path, .int .i64 f.czxid, .int .i64 f.mzxid, .int .i64 f.ctime, .int .i64 f.mtime, .int .i32 f.version, .int .i32 f.cversion, .int .i32 f.aversion, .int .i64 f.owner, .int .i32 f.dlen, .int .i32 f.nkids, .int .i64 f.pzxid, .slice s1 ns1 cs1, .slice s2 ns2 cs2, .slice s3 ns3 cs3, .int .i32 f.count, .int .i64 f.sid, .int .i32 f.timeout, .slice s4 ns4 cs4, .slice s5 ns5 cs5] 40)).alloc ZD80) #[] (e := 5) (size := 1) (base := w.heap.size + 2) 0 sz0 (by decide) rfl
 rw [e0] at ho0
 have rd0 := slr_rd (h1.below hA bb0) 5
 have ni0 := slr_nil h1
 go_wp2_with (first
  | (at_builtin
     (refine wpList_app sBytes rfl (.tmp 5) (.tmp 7) rfl (w.heap.size + 2) _ 0 [] rfl ho0 s1 ns1 cs1 _ rfl rd0 ni0 (one_flatten (one_bytes _)) (by unfold maxLen; omega) (by omega) (by first | (simp; done) | (simp; omega)) ?_)
     intro u1 w1 hown1 gr1 hat1
     obtain ⟨hs1, kp1, le1, bb1⟩ := clone_app sz0 bb0 hown1 e0 gr1 l1.out h1.each
     obtain ⟨a1, n1, c1, rfl⟩ := hs1.slice
     have hg1 := (kp1 w.heap.size (by omega)).trans hg0
     have hz1 := (kp1 (w.heap.size + 1) (by omega)).trans hz0
     have hf1 := st_free hg1 14
     have hc1 := st_at hg1 (k := 14) (v := .slice s1 ns1 cs1) rfl
     have zz1 : (ZD84 w1 w a1 n1 c1).heap.size = w1.heap.size := by simp [World.setCell]
     have bb1' := bb1.setCell (p := ⟨w.heap.size, 14, none⟩) (Nat.le_refl _) (.slice a1 n1 c1)
     have sz1' : w.heap.size + 2 ≤ (ZD84 w1 w a1 n1 c1).heap.size := by omega
     have hg1' : (ZD84 w1 w a1 n1 c1).heap[w.heap.size]? = some (.cells #[.int .i32 f.type, .int .i32 f.code, .string f.path, .int .i64 f.czxid, .int .i64 f.mzxid, .int .i64 f.ctime, .int .i64 f.mtime, .int .i32 f.version, .int .i32 f.cversion, .int .i32 f.aversion, .int .i64 f.owner, .int .i32 f.dlen, .int .i32 f.nkids, .int .i64 f.pzxid, .slice a1 n1 c1, .slice s2 ns2 cs2, .slice s3 ns3 cs3, .int .i32 f.count, .int .i64 f.sid, .int .i32 f.timeout, .slice s4 ns4 cs4, .slice s5 ns5 cs5] 40) := st_set hg1 14 (.slice a1 n1 c1)
     have hz1' : (ZD84 w1 w a1 n1 c1).heap[w.heap.size + 1]? = some ZD80 := (heap_setCell_other w1 ⟨w.heap.size, 14, none⟩ (w.heap.size + 1) (.slice a1 n1 c1) (by simp)).trans hz1
     replace hs1 := (hs1.kept (w' := (ZD84 w1 w a1 n1 c1)) (fun b hb => heap_setCell_other w1 _ b _ (by simp; omega))).mono (B := fun b => w.heap.size + 2 ≤ b ∧ b < (ZD84 w1 w a1 n1 c1).heap.size) (fun b hb => ⟨hb.1, by omega⟩)
     have rd1 := slr_rd (h2.below hA bb1') 81
     have ni1 := slr_nil h2
     have ho1 := World.ownsRow_made (ZD84 w1 w a1 n1 c1) #[] (e := 81) (size := 3) (base := w.heap.size + 2) 0 sz1' (by decide) rfl
     rw [zz1] at ho1
     have hd1 : ((ZD84 w1 w a1 n1 c1).alloc (.cells #[] 81)).cell? ⟨w.heap.size, 15, none⟩ = some (.slice s2 ns2 cs2) := (World.cell?_alloc_lt (ZD84 w1 w a1 n1 c1) _ _ (by show w.heap.size < _; omega)).trans (st_at hg1' rfl)
     clear hown1 gr1 hat1 kp1 rd0 ni0 ho0)
  | (at_builtin
     (refine wpList_app sAcl rfl (.tmp 10) (.tmp 12) rfl (w.heap.size + 2) _ 0 [] rfl ho1 s2 ns2 cs2 _ rfl rd1 ni1 (one_flatten (one_acls _)) (by unfold maxLen; omega) (by omega) (by first | (simp; done) | (simp; omega)) ?_)
     intro u2 w2 hown2 gr2 hat2
     obtain ⟨hs2, kp2, le2, bb2⟩ := clone_app sz1' bb1' hown2 zz1 gr2 l2.out h2.each
     obtain ⟨a2, n2, c2, rfl⟩ := hs2.slice
     have hg2 := (kp2 w.heap.size (by omega)).trans hg1'
     have hz2 := (kp2 (w.heap.size + 1) (by omega)).trans hz1'
     have hf2 := st_free hg2 15
     have hc2 := st_at hg2 (k := 15) (v := .slice s2 ns2 cs2) rfl
     replace hs1 := (hs1.kept (w' := w2) (fun b hb => kp2 b (by omega))).mono (B := fun b => w.heap.size + 2 ≤ b ∧ b < w2.heap.size) (fun b hb => ⟨hb.1, by omega⟩)
     have zz2 : (ZD83 w2 w a2 n2 c2).heap.size = w2.heap.size := by simp [World.setCell]
     have bb2' := bb2.setCell (p := ⟨w.heap.size, 15, none⟩) (Nat.le_refl _) (.slice a2 n2 c2)
     have sz2' : w.heap.size + 2 ≤ (ZD83 w2 w a2 n2 c2).heap.size := by omega
     have hg2' : (ZD83 w2 w a2 n2 c2).heap[w.heap.size]? = some (.cells #[.int .i32 f.type, .int .i32 f.code, .string f.path, .int .i64 f.czxid, .int .i64 f.mzxid, .int .i64 f.ctime, .int .i64 f.mtime, .int .i32 f.version, .int .i32 f.cversion, .int .i32 f.aversion, .int .i64 f.owner, .int .i32 f.dlen, .int .i32 f.nkids, .int .i64 f.pzxid, .slice a1 n1 c1, .slice a2 n2 c2, .slice s3 ns3 cs3, .int .i32 f.count, .int .i64 f.sid, .int .i32 f.timeout, .slice s4 ns4 cs4, .slice s5 ns5 cs5] 40) := st_set hg2 15 (.slice a2 n2 c2)
     have hz2' : (ZD83 w2 w a2 n2 c2).heap[w.heap.size + 1]? = some ZD80 := (heap_setCell_other w2 ⟨w.heap.size, 15, none⟩ (w.heap.size + 1) (.slice a2 n2 c2) (by simp)).trans hz2
     replace hs1 := (hs1.kept (w' := (ZD83 w2 w a2 n2 c2)) (fun b hb => heap_setCell_other w2 _ b _ (by simp; omega))).mono (B := fun b => w.heap.size + 2 ≤ b ∧ b < (ZD83 w2 w a2 n2 c2).heap.size) (fun b hb => ⟨hb.1, by omega⟩)
     replace hs2 := (hs2.kept (w' := (ZD83 w2 w a2 n2 c2)) (fun b hb => heap_setCell_other w2 _ b _ (by simp; omega))).mono (B := fun b => w.heap.size + 2 ≤ b ∧ b < (ZD83 w2 w a2 n2 c2).heap.size) (fun b hb => ⟨hb.1, by omega⟩)
     have rd2 := slr_rd (h3.below hA bb2') 9
     have ni2 := slr_nil h3
     have ho2 := World.ownsRow_made (ZD83 w2 w a2 n2 c2) #[] (e := 9) (size := 1) (base := w.heap.size + 2) 0 sz2' (by decide) rfl
     rw [zz2] at ho2
     have hd2 : ((ZD83 w2 w a2 n2 c2).alloc (.cells #[] 9)).cell? ⟨w.heap.size, 16, none⟩ = some (.slice s3 ns3 cs3) := (World.cell?_alloc_lt (ZD83 w2 w a2 n2 c2) _ _ (by show w.heap.size < _; omega)).trans (st_at hg2' rfl)
     clear hown2 gr2 hat2 kp2 rd1 ni1 ho1 hd1)
  | (at_builtin
     (refine wpList_app sStr rfl (.tmp 15) (.tmp 17) rfl (w.heap.size + 2) _ 0 [] rfl ho2 s3 ns3 cs3 _ rfl rd2 ni2 (one_flatten (one_strs _)) (by unfold maxLen; omega) (by omega) (by first | (simp; done) | (simp; omega)) ?_)
     intro u3 w3 hown3 gr3 hat3
     obtain ⟨hs3, kp3, le3, bb3⟩ := clone_app sz2' bb2' hown3 zz2 gr3 l3.out h3.each
     obtain ⟨a3, n3, c3, rfl⟩ := hs3.slice
     have hg3 := (kp3 w.heap.size (by omega)).trans hg2'
     have hz3 := (kp3 (w.heap.size + 1) (by omega)).trans hz2'
     have hf3 := st_free hg3 16
     have hc3 := st_at hg3 (k := 16) (v := .slice s3 ns3 cs3) rfl
     replace hs1 := (hs1.kept (w' := w3) (fun b hb => kp3 b (by omega))).mono (B := fun b => w.heap.size + 2 ≤ b ∧ b < w3.heap.size) (fun b hb => ⟨hb.1, by omega⟩)
     replace hs2 := (hs2.kept (w' := w3) (fun b hb => kp3 b (by omega))).mono (B := fun b => w.heap.size + 2 ≤ b ∧ b < w3.heap.size) (fun b hb => ⟨hb.1, by omega⟩)
     have zz3 : (ZD82 w3 w a3 n3 c3).heap.size = w3.heap.size := by simp [World.setCell]
     have bb3' := bb3.setCell (p := ⟨w.heap.size, 16, none⟩) (Nat.le_refl _) (.slice a3 n3 c3)
     have sz3' : w.heap.size + 2 ≤ (ZD82 w3 w a3 n3 c3).heap.size := by omega
     have hg3' : (ZD82 w3 w a3 n3 c3).heap[w.heap.size]? = some (.cells #[.int .i32 f.type, .int .i32 f.code, .string f.path, .int .i64 f.czxid, .int .i64 f.mzxid, .int .i64 f.ctime, .int .i64 f.mtime, .int .i32 f.version, .int .i32 f.cversion, .int .i32 f.aversion, .int .i64 f.owner, .int .i32 f.dlen, .int .i32 f.nkids, .int .i64 f.pzxid, .slice a1 n1 c1, .slice a2 n2 c2, .slice a3 n3 c3, .int .i32 f.count, .int .i64 f.sid, .int .i32 f.timeout, .slice s4 ns4 cs4, .slice s5 ns5 cs5] 40) := st_set hg3 16 (.slice a3 n3 c3)
     have hz3' : (ZD82 w3 w a3 n3 c3).heap[w.heap.size + 1]? = some ZD80 := (heap_setCell_other w3 ⟨w.heap.size, 16, none⟩ (w.heap.size + 1) (.slice a3 n3 c3) (by simp)).trans hz3
     replace hs1 := (hs1.kept (w' := (ZD82 w3 w a3 n3 c3)) (fun b hb => heap_setCell_other w3 _ b _ (by simp; omega))).mono (B := fun b => w.heap.size + 2 ≤ b ∧ b < (ZD82 w3 w a3 n3 c3).heap.size) (fun b hb => ⟨hb.1, by omega⟩)
     replace hs2 := (hs2.kept (w' := (ZD82 w3 w a3 n3 c3)) (fun b hb => heap_setCell_other w3 _ b _ (by simp; omega))).mono (B := fun b => w.heap.size + 2 ≤ b ∧ b < (ZD82 w3 w a3 n3 c3).heap.size) (fun b hb => ⟨hb.1, by omega⟩)
     replace hs3 := (hs3.kept (w' := (ZD82 w3 w a3 n3 c3)) (fun b hb => heap_setCell_other w3 _ b _ (by simp; omega))).mono (B := fun b => w.heap.size + 2 ≤ b ∧ b < (ZD82 w3 w a3 n3 c3).heap.size) (fun b hb => ⟨hb.1, by omega⟩)
     have rd3 := slr_rd (h4.below hA bb3') 79
     have ni3 := slr_nil h4
     have ho3 := World.ownsRow_made (ZD82 w3 w a3 n3 c3) #[] (e := 79) (size := 2) (base := w.heap.size + 2) 0 sz3' (by decide) rfl
     rw [zz3] at ho3
     have hd3 : ((ZD82 w3 w a3 n3 c3).alloc (.cells #[] 79)).cell? ⟨w.heap.size, 20, none⟩ = some (.slice s4 ns4 cs4) := (World.cell?_alloc_lt (ZD82 w3 w a3 n3 c3) _ _ (by show w.heap.size < _; omega)).trans (st_at hg3' rfl)
     clear hown3 gr3 hat3 kp3 rd2 ni2 ho2 hd2)
  | (at_builtin
     (refine wpList_app sId rfl (.tmp 20) (.tmp 23) rfl (w.heap.size + 2) _ 0 [] rfl ho3 s4 ns4 cs4 _ rfl rd3 ni3 (one_flatten (one_ids _)) (by unfold maxLen; omega) (by omega) (by first | (simp; done) | (simp; omega)) ?_)
     intro u4 w4 hown4 gr4 hat4
     obtain ⟨hs4, kp4, le4, bb4⟩ := clone_app sz3' bb3' hown4 zz3 gr4 l4.out h4.each
     obtain ⟨a4, n4, c4, rfl⟩ := hs4.slice
     have hg4 := (kp4 w.heap.size (by omega)).trans hg3'
     have hz4 := (kp4 (w.heap.size + 1) (by omega)).trans hz3'
     have hf4 := st_free hg4 20
     have hc4 := st_at hg4 (k := 20) (v := .slice s4 ns4 cs4) rfl
     replace hs1 := (hs1.kept (w' := w4) (fun b hb => kp4 b (by omega))).mono (B := fun b => w.heap.size + 2 ≤ b ∧ b < w4.heap.size) (fun b hb => ⟨hb.1, by omega⟩)
     replace hs2 := (hs2.kept (w' := w4) (fun b hb => kp4 b (by omega))).mono (B := fun b => w.heap.size + 2 ≤ b ∧ b < w4.heap.size) (fun b hb => ⟨hb.1, by omega⟩)
     replace hs3 := (hs3.kept (w' := w4) (fun b hb => kp4 b (by omega))).mono (B := fun b => w.heap.size + 2 ≤ b ∧ b < w4.heap.size) (fun b hb => ⟨hb.1, by omega⟩)
     have zz4 : (w4.setCell ⟨w.heap.size, 20, none⟩ (.slice a4 n4 c4)).heap.size = w4.heap.size := by simp [World.setCell]
     have bb4' := bb4.setCell (p := ⟨w.heap.size, 20, none⟩) (Nat.le_refl _) (.slice a4 n4 c4)
     have sz4' : w.heap.size + 2 ≤ (w4.setCell ⟨w.heap.size, 20, none⟩ (.slice a4 n4 c4)).heap.size := by omega
     have hg4' : (w4.setCell ⟨w.heap.size, 20, none⟩ (.slice a4 n4 c4)).heap[w.heap.size]? = some (.cells #[.int .i32 f.type, .int .i32 f.code, .string f.path, .int .i64 f.czxid, .int .i64 f.mzxid, .int .i64 f.ctime, .int .i64 f.mtime, .int .i32 f.version, .int .i32 f.cversion, .int .i32 f.aversion, .int .i64 f.owner, .int .i32 f.dlen, .int .i32 f.nkids, .int .i64 f.pzxid, .slice a1 n1 c1, .slice a2 n2 c2, .slice a3 n3 c3, .int .i32 f.count, .int .i64 f.sid, .int .i32 f.timeout, .slice a4 n4 c4, .slice s5 ns5 cs5] 40) := st_set hg4 20 (.slice a4 n4 c4)
     have hz4' : (w4.setCell ⟨w.heap.size, 20, none⟩ (.slice a4 n4 c4)).heap[w.heap.size + 1]? = some ZD80 := (heap_setCell_other w4 ⟨w.heap.size, 20, none⟩ (w.heap.size + 1) (.slice a4 n4 c4) (by simp)).trans hz4
     replace hs1 := (hs1.kept (w' := (w4.setCell ⟨w.heap.size, 20, none⟩ (.slice a4 n4 c4))) (fun b hb => heap_setCell_other w4 _ b _ (by simp; omega))).mono (B := fun b => w.heap.size + 2 ≤ b ∧ b < (w4.setCell ⟨w.heap.size, 20, none⟩ (.slice a4 n4 c4)).heap.size) (fun b hb => ⟨hb.1, by omega⟩)
     replace hs2 := (hs2.kept (w' := (w4.setCell ⟨w.heap.size, 20, none⟩ (.slice a4 n4 c4))) (fun b hb => heap_setCell_other w4 _ b _ (by simp; omega))).mono (B := fun b => w.heap.size + 2 ≤ b ∧ b < (w4.setCell ⟨w.heap.size, 20, none⟩ (.slice a4 n4 c4)).heap.size) (fun b hb => ⟨hb.1, by omega⟩)
     replace hs3 := (hs3.kept (w' := (w4.setCell ⟨w.heap.size, 20, none⟩ (.slice a4 n4 c4))) (fun b hb => heap_setCell_other w4 _ b _ (by simp; omega))).mono (B := fun b => w.heap.size + 2 ≤ b ∧ b < (w4.setCell ⟨w.heap.size, 20, none⟩ (.slice a4 n4 c4)).heap.size) (fun b hb => ⟨hb.1, by omega⟩)
     replace hs4 := (hs4.kept (w' := (w4.setCell ⟨w.heap.size, 20, none⟩ (.slice a4 n4 c4))) (fun b hb => heap_setCell_other w4 _ b _ (by simp; omega))).mono (B := fun b => w.heap.size + 2 ≤ b ∧ b < (w4.setCell ⟨w.heap.size, 20, none⟩ (.slice a4 n4 c4)).heap.size) (fun b hb => ⟨hb.1, by omega⟩)
     clear hown4 gr4 hat4 kp4 rd3 ni3 ho3 hd3))
 generalize (w4.setCell ⟨w.heap.size, 20, none⟩ (.slice a4 n4 c4)) = W0 at *
 go_loopw [3, 4] (fun v i W => cloneresInv subs W0 v i W) (fun _ i _ => subs.length - (intOf i).toNat)
 case atStart =>
  refine ⟨0, [], rfl, rfl, Nat.zero_le _, by rw [List.take_zero, RessR], ?_, Below.refl _ _⟩
  exact World.ownsRow_nil _ _ _ _
 case round =>
  obtain ⟨k, news, rfl, hl, hkn, hnews, hown, hbel⟩ := hrel
  have bbr := bb4'.trans (hbel.mono (by omega))
  have hgr := (hbel.block w.heap.size (by omega)).trans hg4'
  have hzr := (hbel.block (w.heap.size + 1) (by omega)).trans hz4'
  have hszr := hbel.size
  have hcell := st_at hgr (k := 21) (v := .slice s5 ns5 cs5) rfl
  by_cases hlt : k < subs.length
  ·have hltz : (k : Int) < ns5 := by rw [l6.out]; omega
   have hltn : k < ns5 := by omega
   obtain ⟨⟨f', subs'⟩, ht'⟩ : ∃ t, subs[k]? = some t := ⟨_, List.getElem?_eq_getElem hlt⟩
   obtain ⟨r, hr, hR⟩ := h6.get ht'
   obtain ⟨b, o, n', c', hv, hAb, hran⟩ := h5.row hr
   cases hv
   have hranr := range_below hran bbr (hA b hAb)
   have hR' : ResR A wr (.mk f' subs') r := hR.kept fun b hb => bbr.block b (hA b hb)
   have hi : (Tryz.prog.info? 40).map (·.size) = some r.length := by rw [hR.length]; kernel_rfl
   have hok' := hso.get ht'
   have hsz' : SizeOf.sizeOf (ResD.mk f' subs') < N := by have := List.sizeOf_lt_of_mem (List.mem_of_getElem? ht'); simp at hN this ⊢; omega
   have hAr : ∀ b, A b → b < wr.heap.size := fun b hb => by have := hA b hb; have := bbr.size; omega
   go_wp2_with (with_reducible refine wpList_load_mid rfl 40 (.tmp 38) rfl b (o + k * 22) rfl r _ hranr Tryz.underlying40 rfl hi ?_)
   refine (ih (.mk f' subs') A r wr hsz' hok' hR' hAr).mono ?_
   rintro e w6 ⟨cs, rfl, hb6, hQ6⟩
   have hcl : cs.length = 22 := hQ6.length
   have hone := hQ6.one
   have hs6 := hb6.size
   have hvb : ∀ q, u3.ownBlock = some q → W0.heap.size ≤ q ∧ q < wr.heap.size := hown.lt
   have hown7 := (own_below hown hb6 (fun q hq => (hvb q hq).2)).alloc (.cells cs.toArray 40)
   have rd7 : Rd (w6.alloc (.cells cs.toArray 40)) 22 (some ⟨w6.heap.size, 0, none⟩) 1 cs := ⟨by omega, fun _ => ⟨w6.heap.size, 0, rfl, fun j u hu => by rw [Nat.zero_add]; exact st_at (heap_alloc_new w6 (.cells cs.toArray 40)) (by simpa using hu)⟩⟩
   have hm5 : subs.length ≤ 1048576 := hsl
   go_wp2_with (first
    | (with_reducible refine wpList_slice1 sResult rfl (.tmp 40) rfl cs rfl hcl (by decide) ?_)
    | (at_builtin
       (refine wpList_app sResult rfl (.tmp 34) (.tmp 41) rfl W0.heap.size u3 k news.flatten rfl hown7 (some ⟨w6.heap.size, 0, none⟩) 1 1 cs rfl rd7 (fun h => by cases h) hone (by unfold maxLen; omega) (by omega) (by simp; omega) ?_)
       intro v8 w8 hown8 hg8 hat8))
   have hg8' := hg8.size
   rw [World.size_alloc] at hg8'
   have hkb : ∀ b, b < w6.heap.size → u3.ownBlock ≠ some b → w8.heap[b]? = w6.heap[b]? := fun b hb hne => by
    rw [hg8.block b (by simp; omega) (fun e => hne e.symm)]
    exact ((Below.refl w6.heap.size w6).alloc (Nat.le_refl _) _).block b hb
   have hne8 : ∀ b, b < w6.heap.size → u3.ownBlock ≠ some b → v8.ownBlock ≠ some b := fun b hb hne e => by
    rcases hat8 with h | h
    ·exact hne (h.symm.trans e)
    ·rw [World.size_alloc] at h
     have := h.symm.trans e
     simp only [Option.some.injEq] at this; omega
   have hI : cloneresInv subs W0 v8 (.int .i64 ((k + 1 : Nat) : Int)) w8 := by
    refine ⟨k + 1, news ++ [cs], rfl, by simp [hl], by omega, ?_, by rw [List.flatten_append, List.flatten_singleton]; exact hown8, ((hbel.trans (hb6.mono (by omega))).alloc (by omega) _).grown hg8 (by simp; omega) (fun q hq => (hvb q hq).1)⟩
    have htk : subs.take (k + 1) = subs.take k ++ [.mk f' subs'] := by
     obtain ⟨hk1, hk2⟩ := List.getElem?_eq_some_iff.1 ht'
     rw [List.take_succ_eq_append_getElem hk1, hk2]
    rw [htk]
    refine RessR.snoc ?_ ?_
    ·exact (hnews.kept (fun b hb => (hkb b (by omega) hb.2.2).trans (hb6.block b hb.2.1))).mono (fun b hb => ⟨hb.1, by omega, hne8 b (by omega) hb.2.2⟩)
    ·have hno : ∀ b, wr.heap.size ≤ b → u3.ownBlock ≠ some b := fun b hb e => by have := hvb b e; omega
     exact (hQ6.kept (fun b hb => hkb b hb.2 (hno b hb.1))).mono (fun b hb => ⟨by have := hb.1; omega, by have := hb.2; omega, hne8 b hb.2 (hno b hb.1)⟩)
   have hk0 : (0 : Int) ≤ k := Int.natCast_nonneg _
   have hkb' : (k : Int) + 1 ≤ 1048577 := by omega
   clear hown8 hg8 hat8 hown7 rd7 hQ6 hb6 hkb hne8
   go_roundw
   case rel => exact hI
   case measure => simp [intOf]; omega
  ·obtain rfl : k = subs.length := by omega
   have hltz : ¬ ((subs.length : Int) < ns5) := by rw [l6.out]; omega
   obtain ⟨a5, n5, c5, rfl⟩ : ∃ a n c, u3 = .slice a n c := by
    rcases hown.2 with ⟨h, _⟩ | ⟨g, cap, cur, h, _⟩
    ·exact ⟨_, _, _, h⟩
    ·exact ⟨_, _, _, h⟩
   have hfr := st_free hgr 21
   have hgr2 : (wr.setCell ⟨w.heap.size, 21, none⟩ (.slice a5 n5 c5)).heap[w.heap.size]? = some (.cells (ZD81 f a1 n1 c1 a2 n2 c2 a3 n3 c3 a4 n4 c4 a5 n5 c5) 40) := st_set hgr 21 (.slice a5 n5 c5)
   have hzr2 : (wr.setCell ⟨w.heap.size, 21, none⟩ (.slice a5 n5 c5)).heap[w.heap.size + 1]? = some ZD80 := (heap_setCell_other wr ⟨w.heap.size, 21, none⟩ (w.heap.size + 1) (.slice a5 n5 c5) (by simp)).trans hzr
   have bbr2 := bbr.setCell (p := ⟨w.heap.size, 21, none⟩) (Nat.le_refl _) (.slice a5 n5 c5)
   go_wp2_with (first | (with_reducible refine wpList_load_row rfl 40 (.tmp 1) rfl w.heap.size rfl 40 _ (0, 0) _ hgr2 Tryz.underlying40 rfl (by kernel_rfl) ?_) | (with_reducible refine wpList_store_row rfl 40 (.tmp 2) (.tmp 45) rfl (w.heap.size + 1) _ rfl rfl 40 _ hzr2 (by kernel_rfl) (by kernel_rfl) (by kernel_rfl) ?_))
   have hko : ∀ b, w.heap.size + 2 ≤ b → ((wr.setCell ⟨w.heap.size, 21, none⟩ (.slice a5 n5 c5)).setRow (w.heap.size + 1) (ZD81 f a1 n1 c1 a2 n2 c2 a3 n3 c3 a4 n4 c4 a5 n5 c5)).heap[b]? = wr.heap[b]? := fun b hb => (setRow_other _ _ b _ (by omega)).trans (heap_setCell_other wr _ b _ (by simp; omega))
   have hrow := setRow_heap (wr.setCell ⟨w.heap.size, 21, none⟩ (.slice a5 n5 c5)) (w.heap.size + 1) _ (ZD81 f a1 n1 c1 a2 n2 c2 a3 n3 c3 a4 n4 c4 a5 n5 c5) 40 (0, 0) hzr2
   have hbelR := below_setRow bbr2 (g := w.heap.size + 1) (by omega) (ZD81 f a1 n1 c1 a2 n2 c2 a3 n3 c3 a4 n4 c4 a5 n5 c5)
   have hszR : ((wr.setCell ⟨w.heap.size, 21, none⟩ (.slice a5 n5 c5)).setRow (w.heap.size + 1) (ZD81 f a1 n1 c1 a2 n2 c2 a3 n3 c3 a4 n4 c4 a5 n5 c5)).heap.size = wr.heap.size := (setRow_size _ _ _).trans (by simp [World.setCell])
   have hsub := slr_own hown hl hnews.each
   have htk : subs.take subs.length = subs := List.take_length
   rw [htk] at hnews
   refine bodyPost_ret (v := .agg (ZD81 f a1 n1 c1 a2 n2 c2 a3 n3 c3 a4 n4 c4 a5 n5 c5)) (results_cell_row rfl _ _ (w.heap.size + 1) 40 _ (0, 0) _ rfl hrow Tryz.underlying40 rfl (by kernel_rfl)) rfl ?_
   generalize (wr.setCell ⟨w.heap.size, 21, none⟩ (.slice a5 n5 c5)).setRow (w.heap.size + 1) _ = WR at *
   refine ⟨f.cells (.slice a1 n1 c1) (.slice a2 n2 c2) (.slice a3 n3 c3) (.slice a4 n4 c4) (.slice a5 n5 c5), rfl, hbelR, ?_⟩
   rw [ResR]
   refine ⟨_, _, _, _, _, news, rfl, ?_, ?_, ?_, ?_, ?_, ?_⟩
   ·exact (hs1.kept fun b hb => (hko b (by omega)).trans (hbel.block b (by omega))).mono fun b hb => ⟨by omega, by omega⟩
   ·exact (hs2.kept fun b hb => (hko b (by omega)).trans (hbel.block b (by omega))).mono fun b hb => ⟨by omega, by omega⟩
   ·exact (hs3.kept fun b hb => (hko b (by omega)).trans (hbel.block b (by omega))).mono fun b hb => ⟨by omega, by omega⟩
   ·exact (hs4.kept fun b hb => (hko b (by omega)).trans (hbel.block b (by omega))).mono fun b hb => ⟨by omega, by omega⟩
   ·exact (hsub.kept fun b hb => hko b (by omega)).mono fun b hb => ⟨by omega, by omega⟩
   ·exact (hnews.kept fun b hb => hko b (by omega)).mono fun b hb => ⟨by omega, by omega⟩
theorem cloneres_all : ∀ (N : Nat) (t : ResD) (A : Nat → Prop) (cs : List Value) (w : World), SizeOf.sizeOf t < N → ResOk t → ResR A w t cs → (∀ b, A b → b < w.heap.size) → Calls Tryz.prog 5 #[.agg cs.toArray] w (RClonedPost t w)
 | 0, _, _, _, _, h, _, _, _ => absurd h (Nat.not_lt_zero _)
 | N + 1, .mk f subs, A, cs, w, hN, hok, hR, hA => by
  rw [ResR] at hR
  obtain ⟨v1, v2, v3, v4, v5, rows, rfl, h1, h2, h3, h4, h5, h6⟩ := hR
  exact cloneres_step N (cloneres_all N) f subs hN hok A v1 v2 v3 v4 v5 rows w hA h1 h2 h3 h4 h5 h6
theorem cloneres_any (t : ResD) (A : Nat → Prop) (cs : List Value) (w : World) (hok : ResOk t) (hR : ResR A w t cs) (hA : ∀ b, A b → b < w.heap.size) : Calls Tryz.prog 5 #[.agg cs.toArray] w (RClonedPost t w) :=
 cloneres_all (SizeOf.sizeOf t + 1) t A cs w (Nat.lt_succ_self _) hok hR hA
set_option maxHeartbeats 4000000
theorem range_app {w : World} {b o : Nat} {xs ys : List Value} (hx : w.rangeAt b o xs) (hy : w.rangeAt b (o + xs.length) ys) : w.rangeAt b o (xs ++ ys) := fun j v hv => by
 by_cases h : j < xs.length
 ·rw [List.getElem?_append_left h] at hv; exact hx j v hv
 ·rw [List.getElem?_append_right (by omega)] at hv
  have := hy (j - xs.length) v hv
  rw [show o + xs.length + (j - xs.length) = o + j by omega] at this; exact this
theorem range_left {w : World} {b o : Nat} {xs ys : List Value} (h : w.rangeAt b o (xs ++ ys)) : w.rangeAt b o xs := fun j v hv =>
 h j v (by rw [List.getElem?_append_left (List.getElem?_eq_some_iff.1 hv).1]; exact hv)
theorem range_right {w : World} {b o : Nat} {xs ys : List Value} (h : w.rangeAt b o (xs ++ ys)) : w.rangeAt b (o + xs.length) ys := fun j v hv => by
 have := h (xs.length + j) v (by rw [List.getElem?_append_right (by omega)]; rw [Nat.add_sub_cancel_left]; exact hv)
 rw [Nat.add_assoc]; exact this
theorem below_setCells (w : World) (g o : Nat) (vs : List Value) : Below g w (w.setCells g o vs) := by
 induction vs generalizing o w with
 | nil => exact Below.refl _ _
 | cons v vs ih => exact ((Below.refl g w).setCell (p := ⟨g, o, none⟩) (Nat.le_refl _) v).trans (ih _ _)
theorem there_of {w : World} {g T : Nat} {cs : Array Value} (h : w.heap[g]? = some (.cells cs T (0, 0))) (o n : Nat) (hn : o + n ≤ cs.size) : w.there g o n := fun j hj => by
 refine ⟨?_, st_free h _⟩
 rw [st_at h (k := o + j) (v := cs[o + j]'(by omega)) (by simp)]; rfl
abbrev ZD90 : Array Value := #[.int .i64 0, .int .i32 0, .int .i64 0, .int .i64 0, .int .i32 0, .string ⟨#[]⟩, .slice none 0 0, .slice none 0 0, .int .i64 0, .int .i32 0, .int .i32 0, .bool false, .int .i64 0, .int .i64 0, .int .i64 0, .int .i32 0, .slice none 0 0, .slice none 0 0, .int .i32 0, .slice none 0 0]
abbrev ZD92 (x0 : World) (x1 : List Value) : World := ((x0.alloc (.cells x1.toArray 35)).alloc (.cells ZD90 35))
theorem refclone_any (t : TxnD) (A : Nat → Prop) (pre cs L : List Value) (hL : L = pre ++ cs) (hp : pre.length = 4) (h1 : ∀ u ∈ pre, u.oneCell' = true) (w : World) (hok : TxnOk t) (hR : TxnR A w t cs) (hA : ∀ b, A b → b < w.heap.size) :
  Calls Tryz.prog 4 #[.agg L.toArray] w fun e w' => ∃ cs', e = .returned (.agg (pre ++ cs').toArray) ∧ Below w.heap.size w w' ∧ TxnR (fun b => w.heap.size ≤ b ∧ b < w'.heap.size) w' t cs' := by
 have hLl : L.length = 20 := by rw [hL, List.length_append, hp, hR.length]
 have hg0 := box_at w (.cells L.toArray 35) (.cells ZD90 35)
 have hz0 : (ZD92 w L).heap[w.heap.size + 1]? = some (.cells ZD90 35) := by have := heap_alloc_new (w.alloc (.cells L.toArray 35)) (.cells ZD90 35); rwa [World.size_alloc] at this
 have bb0 : Below w.heap.size w (ZD92 w L) := ((Below.refl w.heap.size w).alloc (Nat.le_refl _) _).alloc (by simp) _
 have sz0 : (ZD92 w L).heap.size = w.heap.size + 1 + 1 := by simp
 have cv : ∀ (W : World) (b o : Nat), W.rangeAt b o L → W.rangeAt b o (pre ++ cs) := fun W b o h => by rw [← hL]; exact h
 have hran : (ZD92 w L).rangeAt w.heap.size 4 cs := by
  have := st_range hg0
  rw [List.toList_toArray] at this
  have := range_right (cv _ _ _ this)
  rwa [hp, Nat.zero_add] at this
 have CV := Lib.hid cv
 clear cv hL
 have hi : (Tryz.prog.info? 33).map (·.size) = some cs.length := by rw [hR.length]; kernel_rfl
 have hu := Tryz.underlying33
 have hR0 : TxnR A (ZD92 w L) t cs := hR.kept fun b hb => bb0.block b (hA b hb)
 go_enter Tryz.func4, Tryz.ntmps4
 go_wp2_with (with_reducible refine wpList_load_mid rfl 33 (.tmp 3) rfl w.heap.size 4 rfl cs _ hran hu rfl hi ?_)
 refine (clonetxn_any t A cs _ hok hR0 (fun b hb => by have := hA b hb; omega)).mono ?_
 rintro e w1 ⟨cs', rfl, hb1, hR1⟩
 have hs1 := hb1.size
 have hg1 := (hb1.block w.heap.size (by omega)).trans hg0
 have hz1 := (hb1.block (w.heap.size + 1) (by omega)).trans hz0
 have bb1 := bb0.trans (hb1.mono (by omega))
 have hth := there_of hg1 4 16 (by simp [hLl])
 have hl' : cs'.length = 16 := hR1.length
 have hi2 : (Tryz.prog.info? 33).map (·.size) = some cs'.toArray.size := by rw [List.size_toArray, hl']; kernel_rfl
 have hpre : w1.rangeAt w.heap.size 0 pre := by
  have := st_range hg1
  rw [List.toList_toArray] at this
  exact range_left (CV.out _ _ _ this)
 have hran2 : (w1.setCells w.heap.size 4 cs').rangeAt w.heap.size 0 (pre ++ cs') := by
  refine range_app (World.rangeAt_setCells_apart hpre _ _ _ (.inr (.inl (by omega)))) ?_
  rw [hp, Nat.zero_add]
  exact World.rangeAt_setCells_same w1 _ _ _ (by rw [hl']; exact hth)
 have hz2 := (World.heap_setCells_other w1 w.heap.size 4 cs' (i := w.heap.size + 1) (by omega) (by omega)).trans hz1
 have hi3 : (Tryz.prog.info? 35).map (·.size) = some (pre ++ cs').length := by rw [List.length_append, hp, hl']; kernel_rfl
 have hi4 : (Tryz.prog.info? 35).map (·.size) = some (pre ++ cs').toArray.size := by rw [List.size_toArray]; exact hi3
 have hone : (pre ++ cs').toArray.all (·.oneCell') = true := all_oneCell_toArray (fun u hu => by
  rcases List.mem_append.1 hu with h | h
  ·exact h1 u h
  ·exact hR1.one u h)
 have hu2 := Tryz.underlying35
 have hth' : w1.there w.heap.size 4 cs'.toArray.size := by rw [show cs'.toArray.size = 16 by simp [hl']]; exact hth
 have hold : (ZD90 : Array Value).size = (pre ++ cs').toArray.size := by simp [hp, hl']
 have hone1 := all_oneCell_toArray hR1.one
 go_wp2_with (first
  | (with_reducible refine wpList_store_mid rfl 33 (.tmp 6) (.tmp 5) rfl w.heap.size 4 cs'.toArray rfl rfl hth' hi2 hone1 ?_
     rw [List.toList_toArray])
  | (with_reducible refine wpList_load_mid rfl 35 (.tmp 1) rfl w.heap.size 0 rfl (pre ++ cs') _ hran2 hu2 rfl hi3 ?_)
  | (with_reducible refine wpList_store_row rfl 35 (.tmp 2) (.tmp 7) rfl (w.heap.size + 1) (pre ++ cs').toArray rfl rfl 35 _ hz2 hi4 hold hone ?_))
 have hrow := setRow_heap (w1.setCells w.heap.size 4 cs') (w.heap.size + 1) _ (pre ++ cs').toArray 35 (0, 0) hz2
 have hko : ∀ b, w.heap.size + 2 ≤ b → b < w1.heap.size → ((w1.setCells w.heap.size 4 cs').setRow (w.heap.size + 1) (pre ++ cs').toArray).heap[b]? = w1.heap[b]? := fun b hb hb' => (setRow_other _ _ b _ (by omega)).trans (World.heap_setCells_other w1 _ _ _ hb' (by omega))
 have bb2 : Below w.heap.size w (w1.setCells w.heap.size 4 cs') := bb1.trans (below_setCells w1 _ _ _)
 have hbelR := below_setRow bb2 (g := w.heap.size + 1) (by omega) (pre ++ cs').toArray
 refine bodyPost_ret (v := .agg (pre ++ cs').toArray) (results_cell_row rfl _ _ (w.heap.size + 1) 35 _ (0, 0) _ rfl hrow hu2 rfl hi4) rfl ?_
 have hszR := hbelR.size
 refine ⟨cs', rfl, hbelR, ?_⟩
 have hsz2 : w1.heap.size ≤ ((w1.setCells w.heap.size 4 cs').setRow (w.heap.size + 1) (pre ++ cs').toArray).heap.size := by
  rw [setRow_size]; exact (below_setCells w1 w.heap.size 4 cs').size
 exact (hR1.kept fun b hb => hko b (by omega) hb.2).mono fun b hb => ⟨by omega, by omega⟩
theorem dclone_any (t : TxnD) (A : Nat → Prop) (pre cs L : List Value) (hL : L = pre ++ cs) (hp : pre.length = 4) (h1 : ∀ u ∈ pre, u.oneCell' = true) (w : World) (hok : TxnOk t) (hR : TxnR A w t cs) (hA : ∀ b, A b → b < w.heap.size) :
  Calls Tryz.prog 15 #[.agg L.toArray] w fun e w' => ∃ cs', e = .returned (.agg (pre ++ cs').toArray) ∧ Below w.heap.size w w' ∧ TxnR (fun b => w.heap.size ≤ b ∧ b < w'.heap.size) w' t cs' := by
 have hLl : L.length = 20 := by rw [hL, List.length_append, hp, hR.length]
 have hg0 := box_at w (.cells L.toArray 35) (.cells ZD90 35)
 have hz0 : (ZD92 w L).heap[w.heap.size + 1]? = some (.cells ZD90 35) := by have := heap_alloc_new (w.alloc (.cells L.toArray 35)) (.cells ZD90 35); rwa [World.size_alloc] at this
 have bb0 : Below w.heap.size w (ZD92 w L) := ((Below.refl w.heap.size w).alloc (Nat.le_refl _) _).alloc (by simp) _
 have sz0 : (ZD92 w L).heap.size = w.heap.size + 1 + 1 := by simp
 have cv : ∀ (W : World) (b o : Nat), W.rangeAt b o L → W.rangeAt b o (pre ++ cs) := fun W b o h => by rw [← hL]; exact h
 have hran : (ZD92 w L).rangeAt w.heap.size 4 cs := by
  have := st_range hg0
  rw [List.toList_toArray] at this
  have := range_right (cv _ _ _ this)
  rwa [hp, Nat.zero_add] at this
 have CV := Lib.hid cv
 clear cv hL
 have hi : (Tryz.prog.info? 33).map (·.size) = some cs.length := by rw [hR.length]; kernel_rfl
 have hu := Tryz.underlying33
 have hR0 : TxnR A (ZD92 w L) t cs := hR.kept fun b hb => bb0.block b (hA b hb)
 go_enter Tryz.func15, Tryz.ntmps15
 go_wp2_with (with_reducible refine wpList_load_mid rfl 33 (.tmp 3) rfl w.heap.size 4 rfl cs _ hran hu rfl hi ?_)
 refine (cloned_any t A cs _ hok hR0 (fun b hb => by have := hA b hb; omega)).mono ?_
 rintro e w1 ⟨cs', rfl, hb1, hR1⟩
 have hs1 := hb1.size
 have hg1 := (hb1.block w.heap.size (by omega)).trans hg0
 have hz1 := (hb1.block (w.heap.size + 1) (by omega)).trans hz0
 have bb1 := bb0.trans (hb1.mono (by omega))
 have hth := there_of hg1 4 16 (by simp [hLl])
 have hl' : cs'.length = 16 := hR1.length
 have hi2 : (Tryz.prog.info? 33).map (·.size) = some cs'.toArray.size := by rw [List.size_toArray, hl']; kernel_rfl
 have hpre : w1.rangeAt w.heap.size 0 pre := by
  have := st_range hg1
  rw [List.toList_toArray] at this
  exact range_left (CV.out _ _ _ this)
 have hran2 : (w1.setCells w.heap.size 4 cs').rangeAt w.heap.size 0 (pre ++ cs') := by
  refine range_app (World.rangeAt_setCells_apart hpre _ _ _ (.inr (.inl (by omega)))) ?_
  rw [hp, Nat.zero_add]
  exact World.rangeAt_setCells_same w1 _ _ _ (by rw [hl']; exact hth)
 have hz2 := (World.heap_setCells_other w1 w.heap.size 4 cs' (i := w.heap.size + 1) (by omega) (by omega)).trans hz1
 have hi3 : (Tryz.prog.info? 35).map (·.size) = some (pre ++ cs').length := by rw [List.length_append, hp, hl']; kernel_rfl
 have hi4 : (Tryz.prog.info? 35).map (·.size) = some (pre ++ cs').toArray.size := by rw [List.size_toArray]; exact hi3
 have hone : (pre ++ cs').toArray.all (·.oneCell') = true := all_oneCell_toArray (fun u hu => by
  rcases List.mem_append.1 hu with h | h
  ·exact h1 u h
  ·exact hR1.one u h)
 have hu2 := Tryz.underlying35
 have hth' : w1.there w.heap.size 4 cs'.toArray.size := by rw [show cs'.toArray.size = 16 by simp [hl']]; exact hth
 have hold : (ZD90 : Array Value).size = (pre ++ cs').toArray.size := by simp [hp, hl']
 have hone1 := all_oneCell_toArray hR1.one
 go_wp2_with (first
  | (with_reducible refine wpList_store_mid rfl 33 (.tmp 6) (.tmp 5) rfl w.heap.size 4 cs'.toArray rfl rfl hth' hi2 hone1 ?_
     rw [List.toList_toArray])
  | (with_reducible refine wpList_load_mid rfl 35 (.tmp 1) rfl w.heap.size 0 rfl (pre ++ cs') _ hran2 hu2 rfl hi3 ?_)
  | (with_reducible refine wpList_store_row rfl 35 (.tmp 2) (.tmp 7) rfl (w.heap.size + 1) (pre ++ cs').toArray rfl rfl 35 _ hz2 hi4 hold hone ?_))
 have hrow := setRow_heap (w1.setCells w.heap.size 4 cs') (w.heap.size + 1) _ (pre ++ cs').toArray 35 (0, 0) hz2
 have hko : ∀ b, w.heap.size + 2 ≤ b → b < w1.heap.size → ((w1.setCells w.heap.size 4 cs').setRow (w.heap.size + 1) (pre ++ cs').toArray).heap[b]? = w1.heap[b]? := fun b hb hb' => (setRow_other _ _ b _ (by omega)).trans (World.heap_setCells_other w1 _ _ _ hb' (by omega))
 have bb2 : Below w.heap.size w (w1.setCells w.heap.size 4 cs') := bb1.trans (below_setCells w1 _ _ _)
 have hbelR := below_setRow bb2 (g := w.heap.size + 1) (by omega) (pre ++ cs').toArray
 refine bodyPost_ret (v := .agg (pre ++ cs').toArray) (results_cell_row rfl _ _ (w.heap.size + 1) 35 _ (0, 0) _ rfl hrow hu2 rfl hi4) rfl ?_
 have hszR := hbelR.size
 refine ⟨cs', rfl, hbelR, ?_⟩
 have hsz2 : w1.heap.size ≤ ((w1.setCells w.heap.size 4 cs').setRow (w.heap.size + 1) (pre ++ cs').toArray).heap.size := by
  rw [setRow_size]; exact (below_setCells w1 w.heap.size 4 cs').size
 exact (hR1.kept fun b hb => hko b (by omega) hb.2).mono fun b hb => ⟨by omega, by omega⟩
abbrev ZD91 : Array Value := #[.int .i32 0, .int .i64 0, .int .i32 0, .int .i32 0, .int .i32 0, .string ⟨#[]⟩, .int .i64 0, .int .i64 0, .int .i64 0, .int .i64 0, .int .i32 0, .int .i32 0, .int .i32 0, .int .i64 0, .int .i32 0, .int .i32 0, .int .i64 0, .slice none 0 0, .slice none 0 0, .slice none 0 0, .int .i32 0, .int .i64 0, .int .i32 0, .slice none 0 0, .slice none 0 0]
theorem rclone_any (t : ResD) (A : Nat → Prop) (pre cs L : List Value) (hL : L = pre ++ cs) (hp : pre.length = 3) (h1 : ∀ u ∈ pre, u.oneCell' = true) (w : World) (hok : ResOk t) (hR : ResR A w t cs) (hA : ∀ b, A b → b < w.heap.size) :
  Calls Tryz.prog 16 #[.agg L.toArray] w fun e w' => ∃ cs', e = .returned (.agg (pre ++ cs').toArray) ∧ Below w.heap.size w w' ∧ ResR (fun b => w.heap.size ≤ b ∧ b < w'.heap.size) w' t cs' := by
 have hLl : L.length = 25 := by rw [hL, List.length_append, hp, hR.length]
 have hg0 := box_at w (.cells L.toArray 42) (.cells ZD91 42)
 have hz0 : ((w.alloc (.cells L.toArray 42)).alloc (.cells ZD91 42)).heap[w.heap.size + 1]? = some (.cells ZD91 42) := by have := heap_alloc_new (w.alloc (.cells L.toArray 42)) (.cells ZD91 42); rwa [World.size_alloc] at this
 have bb0 : Below w.heap.size w ((w.alloc (.cells L.toArray 42)).alloc (.cells ZD91 42)) := ((Below.refl w.heap.size w).alloc (Nat.le_refl _) _).alloc (by simp) _
 have sz0 : ((w.alloc (.cells L.toArray 42)).alloc (.cells ZD91 42)).heap.size = w.heap.size + 1 + 1 := by simp
 have cv : ∀ (W : World) (b o : Nat), W.rangeAt b o L → W.rangeAt b o (pre ++ cs) := fun W b o h => by rw [← hL]; exact h
 have hran : ((w.alloc (.cells L.toArray 42)).alloc (.cells ZD91 42)).rangeAt w.heap.size 3 cs := by
  have := st_range hg0
  rw [List.toList_toArray] at this
  have := range_right (cv _ _ _ this)
  rwa [hp, Nat.zero_add] at this
 have CV := Lib.hid cv
 clear cv hL
 have hi : (Tryz.prog.info? 40).map (·.size) = some cs.length := by rw [hR.length]; kernel_rfl
 have hu := Tryz.underlying40
 have hR0 : ResR A ((w.alloc (.cells L.toArray 42)).alloc (.cells ZD91 42)) t cs := hR.kept fun b hb => bb0.block b (hA b hb)
 go_enter Tryz.func16, Tryz.ntmps16
 go_wp2_with (with_reducible refine wpList_load_mid rfl 40 (.tmp 3) rfl w.heap.size 3 rfl cs _ hran hu rfl hi ?_)
 refine (rcloned_any t A cs _ hok hR0 (fun b hb => by have := hA b hb; omega)).mono ?_
 rintro e w1 ⟨cs', rfl, hb1, hR1⟩
 have hs1 := hb1.size
 have hg1 := (hb1.block w.heap.size (by omega)).trans hg0
 have hz1 := (hb1.block (w.heap.size + 1) (by omega)).trans hz0
 have bb1 := bb0.trans (hb1.mono (by omega))
 have hth := there_of hg1 3 22 (by simp [hLl])
 have hl' : cs'.length = 22 := hR1.length
 have hi2 : (Tryz.prog.info? 40).map (·.size) = some cs'.toArray.size := by rw [List.size_toArray, hl']; kernel_rfl
 have hpre : w1.rangeAt w.heap.size 0 pre := by
  have := st_range hg1
  rw [List.toList_toArray] at this
  exact range_left (CV.out _ _ _ this)
 have hran2 : (w1.setCells w.heap.size 3 cs').rangeAt w.heap.size 0 (pre ++ cs') := by
  refine range_app (World.rangeAt_setCells_apart hpre _ _ _ (.inr (.inl (by omega)))) ?_
  rw [hp, Nat.zero_add]
  exact World.rangeAt_setCells_same w1 _ _ _ (by rw [hl']; exact hth)
 have hz2 := (World.heap_setCells_other w1 w.heap.size 3 cs' (i := w.heap.size + 1) (by omega) (by omega)).trans hz1
 have hi3 : (Tryz.prog.info? 42).map (·.size) = some (pre ++ cs').length := by rw [List.length_append, hp, hl']; kernel_rfl
 have hi4 : (Tryz.prog.info? 42).map (·.size) = some (pre ++ cs').toArray.size := by rw [List.size_toArray]; exact hi3
 have hone : (pre ++ cs').toArray.all (·.oneCell') = true := all_oneCell_toArray (fun u hu => by
  rcases List.mem_append.1 hu with h | h
  ·exact h1 u h
  ·exact hR1.one u h)
 have hu2 := Tryz.underlying42
 have hth' : w1.there w.heap.size 3 cs'.toArray.size := by rw [show cs'.toArray.size = 22 by simp [hl']]; exact hth
 have hold : (ZD91 : Array Value).size = (pre ++ cs').toArray.size := by simp [hp, hl']
 have hone1 := all_oneCell_toArray hR1.one
 go_wp2_with (first
  | (with_reducible refine wpList_store_mid rfl 40 (.tmp 6) (.tmp 5) rfl w.heap.size 3 cs'.toArray rfl rfl hth' hi2 hone1 ?_
     rw [List.toList_toArray])
  | (with_reducible refine wpList_load_mid rfl 42 (.tmp 1) rfl w.heap.size 0 rfl (pre ++ cs') _ hran2 hu2 rfl hi3 ?_)
  | (with_reducible refine wpList_store_row rfl 42 (.tmp 2) (.tmp 7) rfl (w.heap.size + 1) (pre ++ cs').toArray rfl rfl 42 _ hz2 hi4 hold hone ?_))
 have hrow := setRow_heap (w1.setCells w.heap.size 3 cs') (w.heap.size + 1) _ (pre ++ cs').toArray 42 (0, 0) hz2
 have hko : ∀ b, w.heap.size + 2 ≤ b → b < w1.heap.size → ((w1.setCells w.heap.size 3 cs').setRow (w.heap.size + 1) (pre ++ cs').toArray).heap[b]? = w1.heap[b]? := fun b hb hb' => (setRow_other _ _ b _ (by omega)).trans (World.heap_setCells_other w1 _ _ _ hb' (by omega))
 have bb2 : Below w.heap.size w (w1.setCells w.heap.size 3 cs') := bb1.trans (below_setCells w1 _ _ _)
 have hbelR := below_setRow bb2 (g := w.heap.size + 1) (by omega) (pre ++ cs').toArray
 refine bodyPost_ret (v := .agg (pre ++ cs').toArray) (results_cell_row rfl _ _ (w.heap.size + 1) 42 _ (0, 0) _ rfl hrow hu2 rfl hi4) rfl ?_
 have hszR := hbelR.size
 refine ⟨cs', rfl, hbelR, ?_⟩
 have hsz2 : w1.heap.size ≤ ((w1.setCells w.heap.size 3 cs').setRow (w.heap.size + 1) (pre ++ cs').toArray).heap.size := by
  rw [setRow_size]; exact (below_setCells w1 w.heap.size 3 cs').size
 exact (hR1.kept fun b hb => hko b (by omega) hb.2).mono fun b hb => ⟨by omega, by omega⟩
end Go.Proofs.YtfgjiidbafdndaaGreatDoor
namespace Go.Proofs.YtfgjiidbafdndaaGreatDoor
open Go.RowKit Go.Lib
set_option maxHeartbeats 1000000
set_option maxRecDepth 100000
theorem bytes_ext {a b : ByteArray} (h : a.toList = b.toList) : a = b := by
 rw [ByteArray.toList_eq, ByteArray.toList_eq] at h
 obtain ⟨⟨a⟩⟩ := a
 obtain ⟨⟨b⟩⟩ := b
 simp only at h
 rw [h]
def eqIdD (x y : IdD) : Bool := x.scheme.toList == y.scheme.toList && x.id.toList == y.id.toList
def eqAclD (x y : AclD) : Bool := x.perms == y.perms && eqIdD x.id y.id
theorem eqIdD_iff (x y : IdD) : eqIdD x y = true ↔ x = y := by
 cases x; cases y
 simp only [eqIdD, Bool.and_eq_true, beq_iff_eq, IdD.mk.injEq]
 exact ⟨fun h => ⟨bytes_ext h.1, bytes_ext h.2⟩, fun h => ⟨by rw [h.1], by rw [h.2]⟩⟩
theorem eqAclD_iff (x y : AclD) : eqAclD x y = true ↔ x = y := by
 cases x; cases y
 simp [eqAclD, eqIdD_iff]
theorem equalIn_id (d : Nat) (x y : IdD) (w : World) : (Op.equalIn (d + 1 + 1) 79 (.agg x.cells.toArray) (.agg y.cells.toArray)).run Tryz.prog w = .ok (eqIdD x y) w := by
 have u9 := Tryz.underlying9
 have a9 := Tryz.isAgg9
 have z9 := Tryz.sizeOf9
 have hS : Tryz.prog.underlying 79 = some (.struct (Tryz.prog.fieldsOf 79)) := by kernel_rfl
 have hp : Tryz.prog.stoodInHeld 79 = false := by kernel_rfl
 unfold IdD.cells
 rw [run_equalIn_agg w _ 79 _ _ hS hp]
 simp only [Program.fieldsOf, Tryz.underlying79]
 go_simp
 unfold eqIdD
 by_cases h1 : x.scheme.toList = y.scheme.toList <;> by_cases h2 : x.id.toList = y.id.toList <;> simp [h1, h2]
theorem equalIn_acl (d : Nat) (x y : AclD) (w : World) : (Op.equalIn (d + 1 + 1 + 1) 81 (.agg x.cells.toArray) (.agg y.cells.toArray)).run Tryz.prog w = .ok (eqAclD x y) w := by
 have u9 := Tryz.underlying9
 have a9 := Tryz.isAgg9
 have z9 := Tryz.sizeOf9
 have u21 := Tryz.underlying21
 have a21 := Tryz.isAgg21
 have z21 := Tryz.sizeOf21
 have a79 := Tryz.isAgg79
 have z79 := Tryz.sizeOf79
 have hS : Tryz.prog.underlying 81 = some (.struct (Tryz.prog.fieldsOf 81)) := by kernel_rfl
 have hp : Tryz.prog.stoodInHeld 81 = false := by kernel_rfl
 have hid := equalIn_id d x.id y.id w
 unfold IdD.cells at hid
 have hint : Sem.run Tryz.prog (Op.equalIn (d + 1 + 1) 21 (Value.int IntKind.i32 x.perms) (Value.int IntKind.i32 y.perms)) w = .ok (x.perms == y.perms) w := by go_simp
 unfold AclD.cells
 rw [run_equalIn_agg w _ 81 _ _ hS hp]
 simp only [Program.fieldsOf, Tryz.underlying81]
 generalize d + 1 + 1 = dd at *
 go_simp
 unfold eqAclD
 by_cases h1 : x.perms = y.perms <;> cases eqIdD x.id y.id <;> simp [h1]
theorem eql_id (x y : IdD) (w : World) : (binOp .eql 79 (.agg x.cells.toArray) (.agg y.cells.toArray)).run Tryz.prog w = .ok (.bool (eqIdD x y)) w := by
 rw [run_eql_struct, show (10000 : Nat) = 9998 + 1 + 1 from rfl, equalIn_id]; rfl
theorem neq_id (x y : IdD) (w : World) : (binOp .neq 79 (.agg x.cells.toArray) (.agg y.cells.toArray)).run Tryz.prog w = .ok (.bool (!eqIdD x y)) w := by
 rw [run_neq_struct, show (10000 : Nat) = 9998 + 1 + 1 from rfl, equalIn_id]; rfl
theorem neq_acl (x y : AclD) (w : World) : (binOp .neq 81 (.agg x.cells.toArray) (.agg y.cells.toArray)).run Tryz.prog w = .ok (.bool (!eqAclD x y)) w := by
 rw [run_neq_struct, show (10000 : Nat) = 9997 + 1 + 1 + 1 from rfl, equalIn_acl]; rfl
end Go.Proofs.YtfgjiidbafdndaaGreatDoor
