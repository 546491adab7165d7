/- The arguments of CompileMakes, opened as data. -/
import Derived.Test.YtfgjiidbafdndaaGreatDoorK2
namespace Go.Proofs.YtfgjiidbafdndaaGreatDoor
open Go.RowKit
section
set_option maxHeartbeats 4000000
set_option maxRecDepth 100000
theorem cof2 : Tryz.prog.cellsOf 2 = 1 := by kernel_rfl
theorem cof4 : Tryz.prog.cellsOf 4 = 1 := by kernel_rfl
theorem cof5 : Tryz.prog.cellsOf 5 = 1 := by kernel_rfl
theorem cof9 : Tryz.prog.cellsOf 9 = 1 := by kernel_rfl
theorem cof21 : Tryz.prog.cellsOf 21 = 1 := by kernel_rfl
theorem cof22 : Tryz.prog.cellsOf 22 = 1 := by kernel_rfl
theorem cof23 : Tryz.prog.cellsOf 23 = 1 := by kernel_rfl
theorem cof25 : Tryz.prog.cellsOf 25 = 3 := by kernel_rfl
theorem cof26 : Tryz.prog.cellsOf 26 = 1 := by kernel_rfl
theorem cof28 : Tryz.prog.cellsOf 28 = 3 := by kernel_rfl
theorem cof29 : Tryz.prog.cellsOf 29 = 1 := by kernel_rfl
theorem cof30 : Tryz.prog.cellsOf 30 = 1 := by kernel_rfl
theorem cof31 : Tryz.prog.cellsOf 31 = 1 := by kernel_rfl
theorem cof33 : Tryz.prog.cellsOf 33 = 16 := by kernel_rfl
theorem cof35 : Tryz.prog.cellsOf 35 = 20 := by kernel_rfl
theorem cof37 : Tryz.prog.cellsOf 37 = 11 := by kernel_rfl
theorem cof38 : Tryz.prog.cellsOf 38 = 1 := by kernel_rfl
theorem cof40 : Tryz.prog.cellsOf 40 = 22 := by kernel_rfl
theorem cof42 : Tryz.prog.cellsOf 42 = 25 := by kernel_rfl
theorem cof79 : Tryz.prog.cellsOf 79 = 2 := by kernel_rfl
theorem cof81 : Tryz.prog.cellsOf 81 = 3 := by kernel_rfl
section
variable {H : Type} {enc : TypeId × Value → H} {w : World} {base : Nat} {spare : Nat → Bool} {held : Bool}
theorem open_id {fuel : Nat} {cs : List Value} {x : DataW H × List MemPlace} (h : DataW.trod enc Tryz.prog w base spare held fuel 79 cs = some x) : ∃ y : IdD, cs = y.cells ∧ y.scheme.size < bulk x.1 ∧ y.id.size < bulk x.1 := by
 obtain ⟨xs, n, _, rfl, hl, hlen, hf⟩ := DataW.trod_struct Tryz.underlying79 h
 rw [cof79] at hl
 rcases cs with _ | ⟨c0, cs⟩
 ·simp at hl
 rcases cs with _ | ⟨c1, cs⟩
 ·simp at hl
 rcases cs with _ | ⟨_, _⟩
 rotate_left
 ·simp at hl
 replace hlen : xs.length = 2 := hlen
 rcases xs with _ | ⟨y0, xs⟩
 ·simp at hlen
 rcases xs with _ | ⟨y1, xs⟩
 ·simp at hlen
 rcases xs with _ | ⟨_, _⟩
 rotate_left
 ·simp at hlen
 have f0 : DataW.trod enc Tryz.prog w base spare held n 9 [c0] = some y0 := by have q := hf 0 _ rfl; change DataW.trod enc Tryz.prog w base spare held n 9 (([c0, c1].drop 0).take (Tryz.prog.cellsOf 9)) = some y0 at q; rw [cof9] at q; exact q
 have f1 : DataW.trod enc Tryz.prog w base spare held n 9 [c1] = some y1 := by have q := hf 1 _ rfl; change DataW.trod enc Tryz.prog w base spare held n 9 (([c0, c1].drop 1).take (Tryz.prog.cellsOf 9)) = some y1 at q; rw [cof9] at q; exact q
 clear hf hl hlen
 obtain ⟨s0, e0, rfl, _⟩ := DataW.trod_string Tryz.underlying9 f0
 obtain ⟨s1, e1, rfl, _⟩ := DataW.trod_string Tryz.underlying9 f1
 cases e0
 cases e1
 refine ⟨⟨s0, s1⟩, rfl, ?_, ?_⟩ <;> simp only [bulk_agg, List.map_cons, List.map_nil, bulks_cons, bulks_nil, bulk_str] <;> omega
theorem open_acl {fuel : Nat} {cs : List Value} {x : DataW H × List MemPlace} (h : DataW.trod enc Tryz.prog w base spare held fuel 81 cs = some x) : ∃ y : AclD, cs = y.cells ∧ y.id.scheme.size < bulk x.1 ∧ y.id.id.size < bulk x.1 := by
 obtain ⟨xs, n, _, rfl, hl, hlen, hf⟩ := DataW.trod_struct Tryz.underlying81 h
 rw [cof81] at hl
 rcases cs with _ | ⟨c0, cs⟩
 ·simp at hl
 rcases cs with _ | ⟨c1, cs⟩
 ·simp at hl
 rcases cs with _ | ⟨c2, cs⟩
 ·simp at hl
 rcases cs with _ | ⟨_, _⟩
 rotate_left
 ·simp at hl
 replace hlen : xs.length = 2 := hlen
 rcases xs with _ | ⟨y0, xs⟩
 ·simp at hlen
 rcases xs with _ | ⟨y1, xs⟩
 ·simp at hlen
 rcases xs with _ | ⟨_, _⟩
 rotate_left
 ·simp at hlen
 have f0 : DataW.trod enc Tryz.prog w base spare held n 21 [c0] = some y0 := by have q := hf 0 _ rfl; change DataW.trod enc Tryz.prog w base spare held n 21 (([c0, c1, c2].drop 0).take (Tryz.prog.cellsOf 21)) = some y0 at q; rw [cof21] at q; exact q
 have f1 : DataW.trod enc Tryz.prog w base spare held n 79 [c1, c2] = some y1 := by have q := hf 1 _ rfl; change DataW.trod enc Tryz.prog w base spare held n 79 (([c0, c1, c2].drop 1).take (Tryz.prog.cellsOf 79)) = some y1 at q; rw [cof79] at q; exact q
 clear hf hl hlen
 obtain ⟨s0, e0, rfl, _⟩ := DataW.trod_int Tryz.underlying21 f0
 obtain ⟨y, e1, h1, h2⟩ := open_id f1
 cases e0
 unfold IdD.cells at e1
 cases e1
 refine ⟨⟨s0, y⟩, rfl, ?_, ?_⟩ <;> simp only [bulk_agg, List.map_cons, List.map_nil, bulks_cons, bulks_nil] <;> omega
theorem open_quota {fuel : Nat} {cs : List Value} {x : DataW H × List MemPlace} (h : DataW.trod enc Tryz.prog w base spare held fuel 25 cs = some x) : ∃ (b : Bool) (c d : Int), cs = [.bool b, .int .i64 c, .int .i64 d] := by
 obtain ⟨xs, n, _, rfl, hl, hlen, hf⟩ := DataW.trod_struct Tryz.underlying25 h
 rw [cof25] at hl
 rcases cs with _ | ⟨c0, cs⟩
 ·simp at hl
 rcases cs with _ | ⟨c1, cs⟩
 ·simp at hl
 rcases cs with _ | ⟨c2, cs⟩
 ·simp at hl
 rcases cs with _ | ⟨_, _⟩
 rotate_left
 ·simp at hl
 replace hlen : xs.length = 3 := hlen
 rcases xs with _ | ⟨y0, xs⟩
 ·simp at hlen
 rcases xs with _ | ⟨y1, xs⟩
 ·simp at hlen
 rcases xs with _ | ⟨y2, xs⟩
 ·simp at hlen
 rcases xs with _ | ⟨_, _⟩
 rotate_left
 ·simp at hlen
 have f0 : DataW.trod enc Tryz.prog w base spare held n 4 [c0] = some y0 := by have q := hf 0 _ rfl; change DataW.trod enc Tryz.prog w base spare held n 4 (([c0, c1, c2].drop 0).take (Tryz.prog.cellsOf 4)) = some y0 at q; rw [cof4] at q; exact q
 have f1 : DataW.trod enc Tryz.prog w base spare held n 2 [c1] = some y1 := by have q := hf 1 _ rfl; change DataW.trod enc Tryz.prog w base spare held n 2 (([c0, c1, c2].drop 1).take (Tryz.prog.cellsOf 2)) = some y1 at q; rw [cof2] at q; exact q
 have f2 : DataW.trod enc Tryz.prog w base spare held n 2 [c2] = some y2 := by have q := hf 2 _ rfl; change DataW.trod enc Tryz.prog w base spare held n 2 (([c0, c1, c2].drop 2).take (Tryz.prog.cellsOf 2)) = some y2 at q; rw [cof2] at q; exact q
 clear hf hl hlen
 obtain ⟨s0, e0, _⟩ := DataW.trod_bool Tryz.underlying4 f0
 obtain ⟨s1, e1, _⟩ := DataW.trod_int Tryz.underlying2 f1
 obtain ⟨s2, e2, _⟩ := DataW.trod_int Tryz.underlying2 f2
 cases e0
 cases e1
 cases e2
 exact ⟨s0, s1, s2, rfl⟩
theorem open_bytes {fuel : Nat} {cs : List Value} {x : DataW H × List MemPlace} (h : DataW.trod enc Tryz.prog w base spare held fuel 22 cs = some x) :
  ∃ (v : Value) (l : List UInt8), cs = [v] ∧ SlR (fun b => b < w.heap.size) w 1 v (l.map byteCells) ∧ l.length < bulk x.1 ∧ ∀ y ∈ l, True := by
 obtain ⟨v, rows, h1, h2, h3, h4⟩ := open_rows Tryz.underlying22 cof5 (by decide) h (fun r d => ∃ y : UInt8, r = byteCells y ∧ True) (fun n cs' y hy hlt => by
  obtain ⟨s0, e0, _, hw⟩ := DataW.trod_int Tryz.underlying5 hy
  have h0 : (0 : Int) ≤ s0 ∧ s0 ≤ 255 := by simpa [Lit.wf, IntKind.min, IntKind.max, IntKind.signed, IntKind.bits] using hw
  refine ⟨UInt8.ofNat s0.toNat, ?_, trivial⟩
  rw [e0]
  unfold byteCells
  congr 2
  simp
  omega)
 obtain ⟨l, rfl, hl⟩ := rows_map byteCells (fun y => True) rows (fun r hr => by
  obtain ⟨d, ⟨y, hy, hq⟩, hd⟩ := h4 r hr
  exact ⟨y, hy, trivial⟩)
 rw [List.length_map] at h3
 exact ⟨v, l, h1, h2, h3, hl⟩
theorem open_strs {fuel : Nat} {cs : List Value} {x : DataW H × List MemPlace} (h : DataW.trod enc Tryz.prog w base spare held fuel 29 cs = some x) :
  ∃ (v : Value) (l : List ByteArray), cs = [v] ∧ SlR (fun b => b < w.heap.size) w 1 v (l.map strCells) ∧ l.length < bulk x.1 ∧ ∀ y ∈ l, y.size < bulk x.1 := by
 obtain ⟨v, rows, h1, h2, h3, h4⟩ := open_rows Tryz.underlying29 cof9 (by decide) h (fun r d => ∃ y : ByteArray, r = strCells y ∧ y.size < bulk d) (fun n cs' y hy hlt => by
  obtain ⟨s0, e0, rfl, _⟩ := DataW.trod_string Tryz.underlying9 hy
  exact ⟨s0, e0, by rw [bulk_str]; omega⟩)
 obtain ⟨l, rfl, hl⟩ := rows_map strCells (fun y => y.size < bulk x.1) rows (fun r hr => by
  obtain ⟨d, ⟨y, hy, hq⟩, hd⟩ := h4 r hr
  exact ⟨y, hy, by omega⟩)
 rw [List.length_map] at h3
 exact ⟨v, l, h1, h2, h3, hl⟩
theorem open_ids {fuel : Nat} {cs : List Value} {x : DataW H × List MemPlace} (h : DataW.trod enc Tryz.prog w base spare held fuel 26 cs = some x) :
  ∃ (v : Value) (l : List IdD), cs = [v] ∧ SlR (fun b => b < w.heap.size) w 2 v (l.map IdD.cells) ∧ l.length < bulk x.1 ∧ ∀ y ∈ l, y.scheme.size < bulk x.1 ∧ y.id.size < bulk x.1 := by
 obtain ⟨v, rows, h1, h2, h3, h4⟩ := open_rows Tryz.underlying26 cof79 (by decide) h (fun r d => ∃ y : IdD, r = IdD.cells y ∧ (y.scheme.size < bulk d ∧ y.id.size < bulk d)) (fun n cs' y hy hlt => by
  exact open_id hy)
 obtain ⟨l, rfl, hl⟩ := rows_map IdD.cells (fun y => y.scheme.size < bulk x.1 ∧ y.id.size < bulk x.1) rows (fun r hr => by
  obtain ⟨d, ⟨y, hy, hq⟩, hd⟩ := h4 r hr
  exact ⟨y, hy, by omega⟩)
 rw [List.length_map] at h3
 exact ⟨v, l, h1, h2, h3, hl⟩
theorem open_acls {fuel : Nat} {cs : List Value} {x : DataW H × List MemPlace} (h : DataW.trod enc Tryz.prog w base spare held fuel 23 cs = some x) :
  ∃ (v : Value) (l : List AclD), cs = [v] ∧ SlR (fun b => b < w.heap.size) w 3 v (l.map AclD.cells) ∧ l.length < bulk x.1 ∧ ∀ y ∈ l, y.id.scheme.size < bulk x.1 ∧ y.id.id.size < bulk x.1 := by
 obtain ⟨v, rows, h1, h2, h3, h4⟩ := open_rows Tryz.underlying23 cof81 (by decide) h (fun r d => ∃ y : AclD, r = AclD.cells y ∧ (y.id.scheme.size < bulk d ∧ y.id.id.size < bulk d)) (fun n cs' y hy hlt => by
  exact open_acl hy)
 obtain ⟨l, rfl, hl⟩ := rows_map AclD.cells (fun y => y.id.scheme.size < bulk x.1 ∧ y.id.id.size < bulk x.1) rows (fun r hr => by
  obtain ⟨d, ⟨y, hy, hq⟩, hd⟩ := h4 r hr
  exact ⟨y, hy, by omega⟩)
 rw [List.length_map] at h3
 exact ⟨v, l, h1, h2, h3, hl⟩
theorem open_sess {fuel : Nat} {cs : List Value} {x : DataW H × List MemPlace} (h : DataW.trod enc Tryz.prog w base spare held fuel 28 cs = some x) : ∃ (a b : Int) (v : Value) (l : List IdD), cs = [.int .i64 a, .int .i32 b, v] ∧ SlR (fun b => b < w.heap.size) w 2 v (l.map IdD.cells) ∧ l.length < bulk x.1 ∧ ∀ y ∈ l, y.scheme.size < bulk x.1 ∧ y.id.size < bulk x.1 := by
 obtain ⟨xs, n, _, rfl, hl, hlen, hf⟩ := DataW.trod_struct Tryz.underlying28 h
 rw [cof28] at hl
 rcases cs with _ | ⟨c0, cs⟩
 ·simp at hl
 rcases cs with _ | ⟨c1, cs⟩
 ·simp at hl
 rcases cs with _ | ⟨c2, cs⟩
 ·simp at hl
 rcases cs with _ | ⟨_, _⟩
 rotate_left
 ·simp at hl
 replace hlen : xs.length = 3 := hlen
 rcases xs with _ | ⟨y0, xs⟩
 ·simp at hlen
 rcases xs with _ | ⟨y1, xs⟩
 ·simp at hlen
 rcases xs with _ | ⟨y2, xs⟩
 ·simp at hlen
 rcases xs with _ | ⟨_, _⟩
 rotate_left
 ·simp at hlen
 have f0 : DataW.trod enc Tryz.prog w base spare held n 2 [c0] = some y0 := by have q := hf 0 _ rfl; change DataW.trod enc Tryz.prog w base spare held n 2 (([c0, c1, c2].drop 0).take (Tryz.prog.cellsOf 2)) = some y0 at q; rw [cof2] at q; exact q
 have f1 : DataW.trod enc Tryz.prog w base spare held n 21 [c1] = some y1 := by have q := hf 1 _ rfl; change DataW.trod enc Tryz.prog w base spare held n 21 (([c0, c1, c2].drop 1).take (Tryz.prog.cellsOf 21)) = some y1 at q; rw [cof21] at q; exact q
 have f2 : DataW.trod enc Tryz.prog w base spare held n 26 [c2] = some y2 := by have q := hf 2 _ rfl; change DataW.trod enc Tryz.prog w base spare held n 26 (([c0, c1, c2].drop 2).take (Tryz.prog.cellsOf 26)) = some y2 at q; rw [cof26] at q; exact q
 clear hf hl hlen
 obtain ⟨s0, e0, _⟩ := DataW.trod_int Tryz.underlying2 f0
 obtain ⟨s1, e1, _⟩ := DataW.trod_int Tryz.underlying21 f1
 obtain ⟨v, l, e2, h2, h3, h4⟩ := open_ids f2
 cases e0
 cases e1
 cases e2
 refine ⟨s0, s1, _, l, rfl, h2, ?_, fun y hy => ?_⟩
 ·simp only [bulk_agg, List.map_cons, List.map_nil, bulks_cons, bulks_nil]; omega
 ·have := h4 y hy
  simp only [bulk_agg, List.map_cons, List.map_nil, bulks_cons, bulks_nil]; omega
theorem open_stat {fuel : Nat} {cs : List Value} {x : DataW H × List MemPlace} (h : DataW.trod enc Tryz.prog w base spare held fuel 37 cs = some x) : ∃ (a0 a1 a2 a3 a4 a5 a6 a7 a8 a9 a10 : Int), cs = [.int .i64 a0, .int .i64 a1, .int .i64 a2, .int .i64 a3, .int .i32 a4, .int .i32 a5, .int .i32 a6, .int .i64 a7, .int .i32 a8, .int .i32 a9, .int .i64 a10] := by
 obtain ⟨xs, n, _, rfl, hl, hlen, hf⟩ := DataW.trod_struct Tryz.underlying37 h
 rw [cof37] at hl
 rcases cs with _ | ⟨c0, cs⟩
 ·simp at hl
 rcases cs with _ | ⟨c1, cs⟩
 ·simp at hl
 rcases cs with _ | ⟨c2, cs⟩
 ·simp at hl
 rcases cs with _ | ⟨c3, cs⟩
 ·simp at hl
 rcases cs with _ | ⟨c4, cs⟩
 ·simp at hl
 rcases cs with _ | ⟨c5, cs⟩
 ·simp at hl
 rcases cs with _ | ⟨c6, cs⟩
 ·simp at hl
 rcases cs with _ | ⟨c7, cs⟩
 ·simp at hl
 rcases cs with _ | ⟨c8, cs⟩
 ·simp at hl
 rcases cs with _ | ⟨c9, cs⟩
 ·simp at hl
 rcases cs with _ | ⟨c10, cs⟩
 ·simp at hl
 rcases cs with _ | ⟨_, _⟩
 rotate_left
 ·simp at hl
 replace hlen : xs.length = 11 := hlen
 rcases xs with _ | ⟨y0, xs⟩
 ·simp at hlen
 rcases xs with _ | ⟨y1, xs⟩
 ·simp at hlen
 rcases xs with _ | ⟨y2, xs⟩
 ·simp at hlen
 rcases xs with _ | ⟨y3, xs⟩
 ·simp at hlen
 rcases xs with _ | ⟨y4, xs⟩
 ·simp at hlen
 rcases xs with _ | ⟨y5, xs⟩
 ·simp at hlen
 rcases xs with _ | ⟨y6, xs⟩
 ·simp at hlen
 rcases xs with _ | ⟨y7, xs⟩
 ·simp at hlen
 rcases xs with _ | ⟨y8, xs⟩
 ·simp at hlen
 rcases xs with _ | ⟨y9, xs⟩
 ·simp at hlen
 rcases xs with _ | ⟨y10, xs⟩
 ·simp at hlen
 rcases xs with _ | ⟨_, _⟩
 rotate_left
 ·simp at hlen
 have f0 : DataW.trod enc Tryz.prog w base spare held n 2 [c0] = some y0 := by have q := hf 0 _ rfl; change DataW.trod enc Tryz.prog w base spare held n 2 (([c0, c1, c2, c3, c4, c5, c6, c7, c8, c9, c10].drop 0).take (Tryz.prog.cellsOf 2)) = some y0 at q; rw [cof2] at q; exact q
 have f1 : DataW.trod enc Tryz.prog w base spare held n 2 [c1] = some y1 := by have q := hf 1 _ rfl; change DataW.trod enc Tryz.prog w base spare held n 2 (([c0, c1, c2, c3, c4, c5, c6, c7, c8, c9, c10].drop 1).take (Tryz.prog.cellsOf 2)) = some y1 at q; rw [cof2] at q; exact q
 have f2 : DataW.trod enc Tryz.prog w base spare held n 2 [c2] = some y2 := by have q := hf 2 _ rfl; change DataW.trod enc Tryz.prog w base spare held n 2 (([c0, c1, c2, c3, c4, c5, c6, c7, c8, c9, c10].drop 2).take (Tryz.prog.cellsOf 2)) = some y2 at q; rw [cof2] at q; exact q
 have f3 : DataW.trod enc Tryz.prog w base spare held n 2 [c3] = some y3 := by have q := hf 3 _ rfl; change DataW.trod enc Tryz.prog w base spare held n 2 (([c0, c1, c2, c3, c4, c5, c6, c7, c8, c9, c10].drop 3).take (Tryz.prog.cellsOf 2)) = some y3 at q; rw [cof2] at q; exact q
 have f4 : DataW.trod enc Tryz.prog w base spare held n 21 [c4] = some y4 := by have q := hf 4 _ rfl; change DataW.trod enc Tryz.prog w base spare held n 21 (([c0, c1, c2, c3, c4, c5, c6, c7, c8, c9, c10].drop 4).take (Tryz.prog.cellsOf 21)) = some y4 at q; rw [cof21] at q; exact q
 have f5 : DataW.trod enc Tryz.prog w base spare held n 21 [c5] = some y5 := by have q := hf 5 _ rfl; change DataW.trod enc Tryz.prog w base spare held n 21 (([c0, c1, c2, c3, c4, c5, c6, c7, c8, c9, c10].drop 5).take (Tryz.prog.cellsOf 21)) = some y5 at q; rw [cof21] at q; exact q
 have f6 : DataW.trod enc Tryz.prog w base spare held n 21 [c6] = some y6 := by have q := hf 6 _ rfl; change DataW.trod enc Tryz.prog w base spare held n 21 (([c0, c1, c2, c3, c4, c5, c6, c7, c8, c9, c10].drop 6).take (Tryz.prog.cellsOf 21)) = some y6 at q; rw [cof21] at q; exact q
 have f7 : DataW.trod enc Tryz.prog w base spare held n 2 [c7] = some y7 := by have q := hf 7 _ rfl; change DataW.trod enc Tryz.prog w base spare held n 2 (([c0, c1, c2, c3, c4, c5, c6, c7, c8, c9, c10].drop 7).take (Tryz.prog.cellsOf 2)) = some y7 at q; rw [cof2] at q; exact q
 have f8 : DataW.trod enc Tryz.prog w base spare held n 21 [c8] = some y8 := by have q := hf 8 _ rfl; change DataW.trod enc Tryz.prog w base spare held n 21 (([c0, c1, c2, c3, c4, c5, c6, c7, c8, c9, c10].drop 8).take (Tryz.prog.cellsOf 21)) = some y8 at q; rw [cof21] at q; exact q
 have f9 : DataW.trod enc Tryz.prog w base spare held n 21 [c9] = some y9 := by have q := hf 9 _ rfl; change DataW.trod enc Tryz.prog w base spare held n 21 (([c0, c1, c2, c3, c4, c5, c6, c7, c8, c9, c10].drop 9).take (Tryz.prog.cellsOf 21)) = some y9 at q; rw [cof21] at q; exact q
 have f10 : DataW.trod enc Tryz.prog w base spare held n 2 [c10] = some y10 := by have q := hf 10 _ rfl; change DataW.trod enc Tryz.prog w base spare held n 2 (([c0, c1, c2, c3, c4, c5, c6, c7, c8, c9, c10].drop 10).take (Tryz.prog.cellsOf 2)) = some y10 at q; rw [cof2] at q; exact q
 clear hf hl hlen
 obtain ⟨s0, e0, _⟩ := DataW.trod_int Tryz.underlying2 f0
 cases e0
 obtain ⟨s1, e1, _⟩ := DataW.trod_int Tryz.underlying2 f1
 cases e1
 obtain ⟨s2, e2, _⟩ := DataW.trod_int Tryz.underlying2 f2
 cases e2
 obtain ⟨s3, e3, _⟩ := DataW.trod_int Tryz.underlying2 f3
 cases e3
 obtain ⟨s4, e4, _⟩ := DataW.trod_int Tryz.underlying21 f4
 cases e4
 obtain ⟨s5, e5, _⟩ := DataW.trod_int Tryz.underlying21 f5
 cases e5
 obtain ⟨s6, e6, _⟩ := DataW.trod_int Tryz.underlying21 f6
 cases e6
 obtain ⟨s7, e7, _⟩ := DataW.trod_int Tryz.underlying2 f7
 cases e7
 obtain ⟨s8, e8, _⟩ := DataW.trod_int Tryz.underlying21 f8
 cases e8
 obtain ⟨s9, e9, _⟩ := DataW.trod_int Tryz.underlying21 f9
 cases e9
 obtain ⟨s10, e10, _⟩ := DataW.trod_int Tryz.underlying2 f10
 cases e10
 exact ⟨s0, s1, s2, s3, s4, s5, s6, s7, s8, s9, s10, rfl⟩
theorem txns_of (A : Nat → Prop) (w : World) : ∀ (rows : List (List Value)), (∀ r ∈ rows, ∃ t : TxnD, TxnOk t ∧ TxnR A w t r) → ∃ ts : List TxnD, TxnsOk ts ∧ TxnsR A w ts rows ∧ ts.length = rows.length
 | [], _ => ⟨[], by rw [TxnsOk]; trivial, by rw [TxnsR], rfl⟩
 | r :: rows, h => by
  obtain ⟨t, h1, h2⟩ := h r (by simp)
  obtain ⟨ts, h3, h4, h5⟩ := txns_of A w rows fun r hr => h r (by simp [hr])
  exact ⟨t :: ts, by rw [TxnsOk]; exact ⟨h1, h3⟩, by rw [TxnsR]; exact ⟨r, rows, rfl, h2, h4⟩, by simp [h5]⟩
theorem ress_of (A : Nat → Prop) (w : World) : ∀ (rows : List (List Value)), (∀ r ∈ rows, ∃ t : ResD, ResOk t ∧ ResR A w t r) → ∃ ts : List ResD, RessOk ts ∧ RessR A w ts rows ∧ ts.length = rows.length
 | [], _ => ⟨[], by rw [RessOk]; trivial, by rw [RessR], rfl⟩
 | r :: rows, h => by
  obtain ⟨t, h1, h2⟩ := h r (by simp)
  obtain ⟨ts, h3, h4, h5⟩ := ress_of A w rows fun r hr => h r (by simp [hr])
  exact ⟨t :: ts, by rw [RessOk]; exact ⟨h1, h3⟩, by rw [RessR]; exact ⟨r, rows, rfl, h2, h4⟩, by simp [h5]⟩
theorem open_txn : ∀ (N fuel : Nat) (cs : List Value) (x : DataW H × List MemPlace), DataW.trod enc Tryz.prog w base spare held fuel 33 cs = some x → bulk x.1 ≤ N → N ≤ 1048576 → ∃ t : TxnD, TxnOk t ∧ TxnR (fun b => b < w.heap.size) w t cs
 | 0, _, _, x, _, hx, _ => absurd (Nat.le_trans (bulk_pos x.1) hx) (by decide)
 | N + 1, fuel, cs, x, h, hx, hN => by
  obtain ⟨xs, n, _, rfl, hl, hlen, hf⟩ := DataW.trod_struct Tryz.underlying33 h
  rw [cof33] at hl
  rcases cs with _ | ⟨c0, cs⟩
  ·simp at hl
  rcases cs with _ | ⟨c1, cs⟩
  ·simp at hl
  rcases cs with _ | ⟨c2, cs⟩
  ·simp at hl
  rcases cs with _ | ⟨c3, cs⟩
  ·simp at hl
  rcases cs with _ | ⟨c4, cs⟩
  ·simp at hl
  rcases cs with _ | ⟨c5, cs⟩
  ·simp at hl
  rcases cs with _ | ⟨c6, cs⟩
  ·simp at hl
  rcases cs with _ | ⟨c7, cs⟩
  ·simp at hl
  rcases cs with _ | ⟨c8, cs⟩
  ·simp at hl
  rcases cs with _ | ⟨c9, cs⟩
  ·simp at hl
  rcases cs with _ | ⟨c10, cs⟩
  ·simp at hl
  rcases cs with _ | ⟨c11, cs⟩
  ·simp at hl
  rcases cs with _ | ⟨c12, cs⟩
  ·simp at hl
  rcases cs with _ | ⟨c13, cs⟩
  ·simp at hl
  rcases cs with _ | ⟨c14, cs⟩
  ·simp at hl
  rcases cs with _ | ⟨c15, cs⟩
  ·simp at hl
  rcases cs with _ | ⟨_, _⟩
  rotate_left
  ·simp at hl
  replace hlen : xs.length = 12 := hlen
  rcases xs with _ | ⟨y0, xs⟩
  ·simp at hlen
  rcases xs with _ | ⟨y1, xs⟩
  ·simp at hlen
  rcases xs with _ | ⟨y2, xs⟩
  ·simp at hlen
  rcases xs with _ | ⟨y3, xs⟩
  ·simp at hlen
  rcases xs with _ | ⟨y4, xs⟩
  ·simp at hlen
  rcases xs with _ | ⟨y5, xs⟩
  ·simp at hlen
  rcases xs with _ | ⟨y6, xs⟩
  ·simp at hlen
  rcases xs with _ | ⟨y7, xs⟩
  ·simp at hlen
  rcases xs with _ | ⟨y8, xs⟩
  ·simp at hlen
  rcases xs with _ | ⟨y9, xs⟩
  ·simp at hlen
  rcases xs with _ | ⟨y10, xs⟩
  ·simp at hlen
  rcases xs with _ | ⟨y11, xs⟩
  ·simp at hlen
  rcases xs with _ | ⟨_, _⟩
  rotate_left
  ·simp at hlen
  have f0 : DataW.trod enc Tryz.prog w base spare held n 21 [c0] = some y0 := by have q := hf 0 _ rfl; change DataW.trod enc Tryz.prog w base spare held n 21 (([c0, c1, c2, c3, c4, c5, c6, c7, c8, c9, c10, c11, c12, c13, c14, c15].drop 0).take (Tryz.prog.cellsOf 21)) = some y0 at q; rw [cof21] at q; exact q
  have f1 : DataW.trod enc Tryz.prog w base spare held n 9 [c1] = some y1 := by have q := hf 1 _ rfl; change DataW.trod enc Tryz.prog w base spare held n 9 (([c0, c1, c2, c3, c4, c5, c6, c7, c8, c9, c10, c11, c12, c13, c14, c15].drop 1).take (Tryz.prog.cellsOf 9)) = some y1 at q; rw [cof9] at q; exact q
  have f2 : DataW.trod enc Tryz.prog w base spare held n 22 [c2] = some y2 := by have q := hf 2 _ rfl; change DataW.trod enc Tryz.prog w base spare held n 22 (([c0, c1, c2, c3, c4, c5, c6, c7, c8, c9, c10, c11, c12, c13, c14, c15].drop 2).take (Tryz.prog.cellsOf 22)) = some y2 at q; rw [cof22] at q; exact q
  have f3 : DataW.trod enc Tryz.prog w base spare held n 23 [c3] = some y3 := by have q := hf 3 _ rfl; change DataW.trod enc Tryz.prog w base spare held n 23 (([c0, c1, c2, c3, c4, c5, c6, c7, c8, c9, c10, c11, c12, c13, c14, c15].drop 3).take (Tryz.prog.cellsOf 23)) = some y3 at q; rw [cof23] at q; exact q
  have f4 : DataW.trod enc Tryz.prog w base spare held n 2 [c4] = some y4 := by have q := hf 4 _ rfl; change DataW.trod enc Tryz.prog w base spare held n 2 (([c0, c1, c2, c3, c4, c5, c6, c7, c8, c9, c10, c11, c12, c13, c14, c15].drop 4).take (Tryz.prog.cellsOf 2)) = some y4 at q; rw [cof2] at q; exact q
  have f5 : DataW.trod enc Tryz.prog w base spare held n 21 [c5] = some y5 := by have q := hf 5 _ rfl; change DataW.trod enc Tryz.prog w base spare held n 21 (([c0, c1, c2, c3, c4, c5, c6, c7, c8, c9, c10, c11, c12, c13, c14, c15].drop 5).take (Tryz.prog.cellsOf 21)) = some y5 at q; rw [cof21] at q; exact q
  have f6 : DataW.trod enc Tryz.prog w base spare held n 21 [c6] = some y6 := by have q := hf 6 _ rfl; change DataW.trod enc Tryz.prog w base spare held n 21 (([c0, c1, c2, c3, c4, c5, c6, c7, c8, c9, c10, c11, c12, c13, c14, c15].drop 6).take (Tryz.prog.cellsOf 21)) = some y6 at q; rw [cof21] at q; exact q
  have f7 : DataW.trod enc Tryz.prog w base spare held n 25 [c7, c8, c9] = some y7 := by have q := hf 7 _ rfl; change DataW.trod enc Tryz.prog w base spare held n 25 (([c0, c1, c2, c3, c4, c5, c6, c7, c8, c9, c10, c11, c12, c13, c14, c15].drop 7).take (Tryz.prog.cellsOf 25)) = some y7 at q; rw [cof25] at q; exact q
  have f8 : DataW.trod enc Tryz.prog w base spare held n 28 [c10, c11, c12] = some y8 := by have q := hf 8 _ rfl; change DataW.trod enc Tryz.prog w base spare held n 28 (([c0, c1, c2, c3, c4, c5, c6, c7, c8, c9, c10, c11, c12, c13, c14, c15].drop 10).take (Tryz.prog.cellsOf 28)) = some y8 at q; rw [cof28] at q; exact q
  have f9 : DataW.trod enc Tryz.prog w base spare held n 29 [c13] = some y9 := by have q := hf 9 _ rfl; change DataW.trod enc Tryz.prog w base spare held n 29 (([c0, c1, c2, c3, c4, c5, c6, c7, c8, c9, c10, c11, c12, c13, c14, c15].drop 13).take (Tryz.prog.cellsOf 29)) = some y9 at q; rw [cof29] at q; exact q
  have f10 : DataW.trod enc Tryz.prog w base spare held n 30 [c14] = some y10 := by have q := hf 10 _ rfl; change DataW.trod enc Tryz.prog w base spare held n 30 (([c0, c1, c2, c3, c4, c5, c6, c7, c8, c9, c10, c11, c12, c13, c14, c15].drop 14).take (Tryz.prog.cellsOf 30)) = some y10 at q; rw [cof30] at q; exact q
  have f11 : DataW.trod enc Tryz.prog w base spare held n 31 [c15] = some y11 := by have q := hf 11 _ rfl; change DataW.trod enc Tryz.prog w base spare held n 31 (([c0, c1, c2, c3, c4, c5, c6, c7, c8, c9, c10, c11, c12, c13, c14, c15].drop 15).take (Tryz.prog.cellsOf 31)) = some y11 at q; rw [cof31] at q; exact q
  clear hf hl hlen
  simp only [bulk_agg, List.map_cons, List.map_nil, bulks_cons, bulks_nil] at hx
  obtain ⟨s0, e0, _⟩ := DataW.trod_int Tryz.underlying21 f0
  obtain ⟨s1, e1, d1, _⟩ := DataW.trod_string Tryz.underlying9 f1
  obtain ⟨v2, l2, e2, r2, n2, _⟩ := open_bytes f2
  obtain ⟨v3, l3, e3, r3, n3, q3⟩ := open_acls f3
  obtain ⟨s4, e4, _⟩ := DataW.trod_int Tryz.underlying2 f4
  obtain ⟨s5, e5, _⟩ := DataW.trod_int Tryz.underlying21 f5
  obtain ⟨s6, e6, _⟩ := DataW.trod_int Tryz.underlying21 f6
  obtain ⟨s7, s8, s9, e7⟩ := open_quota f7
  obtain ⟨s10, s11, v8, l8, e8, r8, n8, q8⟩ := open_sess f8
  obtain ⟨v9, l9, e9, r9, n9, q9⟩ := open_strs f9
  obtain ⟨s14, e10, _⟩ := DataW.trod_int Tryz.underlying30 f10
  obtain ⟨v11, rows, e11, r11, n11, q11⟩ := open_rows Tryz.underlying31 cof33 (by decide) f11 (fun r d => ∃ t : TxnD, TxnOk t ∧ TxnR (fun b => b < w.heap.size) w t r) (fun n cs' y hy hlt => open_txn N n cs' y hy (by omega) (by omega))
  have hd1 : s1.size + 1 = bulk y1.1 := by rw [d1, bulk_str]
  cases e0; cases e1; cases e2; cases e3; cases e4; cases e5; cases e6; cases e7; cases e8; cases e9; cases e10; cases e11
  obtain ⟨ts, h1, h2, h3⟩ := txns_of (fun b => b < w.heap.size) w rows (fun r hr => by obtain ⟨d, hq, _⟩ := q11 r hr; exact hq)
  refine ⟨.mk { type := s0, path := s1, data := l2, acl := l3, owner := s4, version := s5, creates := s6, has := s7, count := s8, bytes := s9, sid := s10, timeout := s11, ids := l8, paths := l9, code := s14 } ts, ?_, ?_⟩
  ·rw [TxnOk]
   refine ⟨⟨?_, ?_, ?_, ?_, ?_, fun y hy => ?_, fun y hy => ?_, fun y hy => ?_⟩, by omega, h1⟩
   ·show l2.length ≤ 1048576; omega
   ·show l3.length ≤ 1048576; omega
   ·show l8.length ≤ 1048576; omega
   ·show l9.length ≤ 1048576; omega
   ·show s1.size ≤ 1048576; omega
   ·have := q3 y hy; omega
   ·have := q8 y hy; omega
   ·have := q9 y hy; omega
  ·rw [TxnR]
   exact ⟨_, _, _, _, _, rows, rfl, r2, r3, r8, r9, r11, h2⟩
theorem open_res : ∀ (N fuel : Nat) (cs : List Value) (x : DataW H × List MemPlace), DataW.trod enc Tryz.prog w base spare held fuel 40 cs = some x → bulk x.1 ≤ N → N ≤ 1048576 → ∃ t : ResD, ResOk t ∧ ResR (fun b => b < w.heap.size) w t cs
 | 0, _, _, x, _, hx, _ => absurd (Nat.le_trans (bulk_pos x.1) hx) (by decide)
 | N + 1, fuel, cs, x, h, hx, hN => by
  obtain ⟨xs, n, _, rfl, hl, hlen, hf⟩ := DataW.trod_struct Tryz.underlying40 h
  rw [cof40] at hl
  rcases cs with _ | ⟨c0, cs⟩
  ·simp at hl
  rcases cs with _ | ⟨c1, cs⟩
  ·simp at hl
  rcases cs with _ | ⟨c2, cs⟩
  ·simp at hl
  rcases cs with _ | ⟨c3, cs⟩
  ·simp at hl
  rcases cs with _ | ⟨c4, cs⟩
  ·simp at hl
  rcases cs with _ | ⟨c5, cs⟩
  ·simp at hl
  rcases cs with _ | ⟨c6, cs⟩
  ·simp at hl
  rcases cs with _ | ⟨c7, cs⟩
  ·simp at hl
  rcases cs with _ | ⟨c8, cs⟩
  ·simp at hl
  rcases cs with _ | ⟨c9, cs⟩
  ·simp at hl
  rcases cs with _ | ⟨c10, cs⟩
  ·simp at hl
  rcases cs with _ | ⟨c11, cs⟩
  ·simp at hl
  rcases cs with _ | ⟨c12, cs⟩
  ·simp at hl
  rcases cs with _ | ⟨c13, cs⟩
  ·simp at hl
  rcases cs with _ | ⟨c14, cs⟩
  ·simp at hl
  rcases cs with _ | ⟨c15, cs⟩
  ·simp at hl
  rcases cs with _ | ⟨c16, cs⟩
  ·simp at hl
  rcases cs with _ | ⟨c17, cs⟩
  ·simp at hl
  rcases cs with _ | ⟨c18, cs⟩
  ·simp at hl
  rcases cs with _ | ⟨c19, cs⟩
  ·simp at hl
  rcases cs with _ | ⟨c20, cs⟩
  ·simp at hl
  rcases cs with _ | ⟨c21, cs⟩
  ·simp at hl
  rcases cs with _ | ⟨_, _⟩
  rotate_left
  ·simp at hl
  replace hlen : xs.length = 10 := hlen
  rcases xs with _ | ⟨y0, xs⟩
  ·simp at hlen
  rcases xs with _ | ⟨y1, xs⟩
  ·simp at hlen
  rcases xs with _ | ⟨y2, xs⟩
  ·simp at hlen
  rcases xs with _ | ⟨y3, xs⟩
  ·simp at hlen
  rcases xs with _ | ⟨y4, xs⟩
  ·simp at hlen
  rcases xs with _ | ⟨y5, xs⟩
  ·simp at hlen
  rcases xs with _ | ⟨y6, xs⟩
  ·simp at hlen
  rcases xs with _ | ⟨y7, xs⟩
  ·simp at hlen
  rcases xs with _ | ⟨y8, xs⟩
  ·simp at hlen
  rcases xs with _ | ⟨y9, xs⟩
  ·simp at hlen
  rcases xs with _ | ⟨_, _⟩
  rotate_left
  ·simp at hlen
  have f0 : DataW.trod enc Tryz.prog w base spare held n 21 [c0] = some y0 := by have q := hf 0 _ rfl; change DataW.trod enc Tryz.prog w base spare held n 21 (([c0, c1, c2, c3, c4, c5, c6, c7, c8, c9, c10, c11, c12, c13, c14, c15, c16, c17, c18, c19, c20, c21].drop 0).take (Tryz.prog.cellsOf 21)) = some y0 at q; rw [cof21] at q; exact q
  have f1 : DataW.trod enc Tryz.prog w base spare held n 30 [c1] = some y1 := by have q := hf 1 _ rfl; change DataW.trod enc Tryz.prog w base spare held n 30 (([c0, c1, c2, c3, c4, c5, c6, c7, c8, c9, c10, c11, c12, c13, c14, c15, c16, c17, c18, c19, c20, c21].drop 1).take (Tryz.prog.cellsOf 30)) = some y1 at q; rw [cof30] at q; exact q
  have f2 : DataW.trod enc Tryz.prog w base spare held n 9 [c2] = some y2 := by have q := hf 2 _ rfl; change DataW.trod enc Tryz.prog w base spare held n 9 (([c0, c1, c2, c3, c4, c5, c6, c7, c8, c9, c10, c11, c12, c13, c14, c15, c16, c17, c18, c19, c20, c21].drop 2).take (Tryz.prog.cellsOf 9)) = some y2 at q; rw [cof9] at q; exact q
  have f3 : DataW.trod enc Tryz.prog w base spare held n 37 [c3, c4, c5, c6, c7, c8, c9, c10, c11, c12, c13] = some y3 := by have q := hf 3 _ rfl; change DataW.trod enc Tryz.prog w base spare held n 37 (([c0, c1, c2, c3, c4, c5, c6, c7, c8, c9, c10, c11, c12, c13, c14, c15, c16, c17, c18, c19, c20, c21].drop 3).take (Tryz.prog.cellsOf 37)) = some y3 at q; rw [cof37] at q; exact q
  have f4 : DataW.trod enc Tryz.prog w base spare held n 22 [c14] = some y4 := by have q := hf 4 _ rfl; change DataW.trod enc Tryz.prog w base spare held n 22 (([c0, c1, c2, c3, c4, c5, c6, c7, c8, c9, c10, c11, c12, c13, c14, c15, c16, c17, c18, c19, c20, c21].drop 14).take (Tryz.prog.cellsOf 22)) = some y4 at q; rw [cof22] at q; exact q
  have f5 : DataW.trod enc Tryz.prog w base spare held n 23 [c15] = some y5 := by have q := hf 5 _ rfl; change DataW.trod enc Tryz.prog w base spare held n 23 (([c0, c1, c2, c3, c4, c5, c6, c7, c8, c9, c10, c11, c12, c13, c14, c15, c16, c17, c18, c19, c20, c21].drop 15).take (Tryz.prog.cellsOf 23)) = some y5 at q; rw [cof23] at q; exact q
  have f6 : DataW.trod enc Tryz.prog w base spare held n 29 [c16] = some y6 := by have q := hf 6 _ rfl; change DataW.trod enc Tryz.prog w base spare held n 29 (([c0, c1, c2, c3, c4, c5, c6, c7, c8, c9, c10, c11, c12, c13, c14, c15, c16, c17, c18, c19, c20, c21].drop 16).take (Tryz.prog.cellsOf 29)) = some y6 at q; rw [cof29] at q; exact q
  have f7 : DataW.trod enc Tryz.prog w base spare held n 21 [c17] = some y7 := by have q := hf 7 _ rfl; change DataW.trod enc Tryz.prog w base spare held n 21 (([c0, c1, c2, c3, c4, c5, c6, c7, c8, c9, c10, c11, c12, c13, c14, c15, c16, c17, c18, c19, c20, c21].drop 17).take (Tryz.prog.cellsOf 21)) = some y7 at q; rw [cof21] at q; exact q
  have f8 : DataW.trod enc Tryz.prog w base spare held n 28 [c18, c19, c20] = some y8 := by have q := hf 8 _ rfl; change DataW.trod enc Tryz.prog w base spare held n 28 (([c0, c1, c2, c3, c4, c5, c6, c7, c8, c9, c10, c11, c12, c13, c14, c15, c16, c17, c18, c19, c20, c21].drop 18).take (Tryz.prog.cellsOf 28)) = some y8 at q; rw [cof28] at q; exact q
  have f9 : DataW.trod enc Tryz.prog w base spare held n 38 [c21] = some y9 := by have q := hf 9 _ rfl; change DataW.trod enc Tryz.prog w base spare held n 38 (([c0, c1, c2, c3, c4, c5, c6, c7, c8, c9, c10, c11, c12, c13, c14, c15, c16, c17, c18, c19, c20, c21].drop 21).take (Tryz.prog.cellsOf 38)) = some y9 at q; rw [cof38] at q; exact q
  clear hf hl hlen
  simp only [bulk_agg, List.map_cons, List.map_nil, bulks_cons, bulks_nil] at hx
  obtain ⟨s0, e0, _⟩ := DataW.trod_int Tryz.underlying21 f0
  obtain ⟨s1, e1, _⟩ := DataW.trod_int Tryz.underlying30 f1
  obtain ⟨s2, e2, d2, _⟩ := DataW.trod_string Tryz.underlying9 f2
  obtain ⟨a0, a1, a2, a3, a4, a5, a6, a7, a8, a9, a10, e3⟩ := open_stat f3
  obtain ⟨v4, l4, e4, r4, n4, _⟩ := open_bytes f4
  obtain ⟨v5, l5, e5, r5, n5, q5⟩ := open_acls f5
  obtain ⟨v6, l6, e6, r6, n6, q6⟩ := open_strs f6
  obtain ⟨s7, e7, _⟩ := DataW.trod_int Tryz.underlying21 f7
  obtain ⟨s8, s9, v8, l8, e8, r8, n8, q8⟩ := open_sess f8
  obtain ⟨v9, rows, e9, r9, n9, q9⟩ := open_rows Tryz.underlying38 cof40 (by decide) f9 (fun r d => ∃ t : ResD, ResOk t ∧ ResR (fun b => b < w.heap.size) w t r) (fun n cs' y hy hlt => open_res N n cs' y hy (by omega) (by omega))
  have hd2 : s2.size + 1 = bulk y2.1 := by rw [d2, bulk_str]
  cases e0; cases e1; cases e2; cases e3; cases e4; cases e5; cases e6; cases e7; cases e8; cases e9
  obtain ⟨ts, h1, h2, h3⟩ := ress_of (fun b => b < w.heap.size) w rows (fun r hr => by obtain ⟨d, hq, _⟩ := q9 r hr; exact hq)
  refine ⟨.mk { type := s0, code := s1, path := s2, czxid := a0, mzxid := a1, ctime := a2, mtime := a3, version := a4, cversion := a5, aversion := a6, owner := a7, dlen := a8, nkids := a9, pzxid := a10, data := l4, acl := l5, names := l6, count := s7, sid := s8, timeout := s9, ids := l8 } ts, ?_, ?_⟩
  ·rw [ResOk]
   refine ⟨⟨?_, ?_, ?_, ?_, ?_, fun y hy => ?_, fun y hy => ?_, fun y hy => ?_⟩, by omega, h1⟩
   ·show l4.length ≤ 1048576; omega
   ·show l5.length ≤ 1048576; omega
   ·show l8.length ≤ 1048576; omega
   ·show l6.length ≤ 1048576; omega
   ·show s2.size ≤ 1048576; omega
   ·have := q5 y hy; omega
   ·have := q8 y hy; omega
   ·have := q6 y hy; omega
  ·rw [ResR]
   exact ⟨_, _, _, _, _, rows, rfl, r4, r5, r6, r8, r9, h2⟩
theorem open_delta {fuel : Nat} {cs : List Value} {x : DataW H × List MemPlace} (h : DataW.trod enc Tryz.prog w base spare held fuel 35 cs = some x) (hx : bulk x.1 ≤ 1048576) : ∃ (s x z t : Int) (tc : List Value) (td : TxnD), cs = [.int .i64 s, .int .i32 x, .int .i64 z, .int .i64 t] ++ tc ∧ TxnOk td ∧ TxnR (fun b => b < w.heap.size) w td tc := by
 obtain ⟨xs, n, _, rfl, hl, hlen, hf⟩ := DataW.trod_struct Tryz.underlying35 h
 rw [cof35] at hl
 rcases cs with _ | ⟨c0, cs⟩
 ·simp at hl
 rcases cs with _ | ⟨c1, cs⟩
 ·simp at hl
 rcases cs with _ | ⟨c2, cs⟩
 ·simp at hl
 rcases cs with _ | ⟨c3, cs⟩
 ·simp at hl
 rcases cs with _ | ⟨c4, cs⟩
 ·simp at hl
 rcases cs with _ | ⟨c5, cs⟩
 ·simp at hl
 rcases cs with _ | ⟨c6, cs⟩
 ·simp at hl
 rcases cs with _ | ⟨c7, cs⟩
 ·simp at hl
 rcases cs with _ | ⟨c8, cs⟩
 ·simp at hl
 rcases cs with _ | ⟨c9, cs⟩
 ·simp at hl
 rcases cs with _ | ⟨c10, cs⟩
 ·simp at hl
 rcases cs with _ | ⟨c11, cs⟩
 ·simp at hl
 rcases cs with _ | ⟨c12, cs⟩
 ·simp at hl
 rcases cs with _ | ⟨c13, cs⟩
 ·simp at hl
 rcases cs with _ | ⟨c14, cs⟩
 ·simp at hl
 rcases cs with _ | ⟨c15, cs⟩
 ·simp at hl
 rcases cs with _ | ⟨c16, cs⟩
 ·simp at hl
 rcases cs with _ | ⟨c17, cs⟩
 ·simp at hl
 rcases cs with _ | ⟨c18, cs⟩
 ·simp at hl
 rcases cs with _ | ⟨c19, cs⟩
 ·simp at hl
 rcases cs with _ | ⟨_, _⟩
 rotate_left
 ·simp at hl
 replace hlen : xs.length = 5 := hlen
 rcases xs with _ | ⟨y0, xs⟩
 ·simp at hlen
 rcases xs with _ | ⟨y1, xs⟩
 ·simp at hlen
 rcases xs with _ | ⟨y2, xs⟩
 ·simp at hlen
 rcases xs with _ | ⟨y3, xs⟩
 ·simp at hlen
 rcases xs with _ | ⟨y4, xs⟩
 ·simp at hlen
 rcases xs with _ | ⟨_, _⟩
 rotate_left
 ·simp at hlen
 have f0 : DataW.trod enc Tryz.prog w base spare held n 2 [c0] = some y0 := by have q := hf 0 _ rfl; change DataW.trod enc Tryz.prog w base spare held n 2 (([c0, c1, c2, c3, c4, c5, c6, c7, c8, c9, c10, c11, c12, c13, c14, c15, c16, c17, c18, c19].drop 0).take (Tryz.prog.cellsOf 2)) = some y0 at q; rw [cof2] at q; exact q
 have f1 : DataW.trod enc Tryz.prog w base spare held n 21 [c1] = some y1 := by have q := hf 1 _ rfl; change DataW.trod enc Tryz.prog w base spare held n 21 (([c0, c1, c2, c3, c4, c5, c6, c7, c8, c9, c10, c11, c12, c13, c14, c15, c16, c17, c18, c19].drop 1).take (Tryz.prog.cellsOf 21)) = some y1 at q; rw [cof21] at q; exact q
 have f2 : DataW.trod enc Tryz.prog w base spare held n 2 [c2] = some y2 := by have q := hf 2 _ rfl; change DataW.trod enc Tryz.prog w base spare held n 2 (([c0, c1, c2, c3, c4, c5, c6, c7, c8, c9, c10, c11, c12, c13, c14, c15, c16, c17, c18, c19].drop 2).take (Tryz.prog.cellsOf 2)) = some y2 at q; rw [cof2] at q; exact q
 have f3 : DataW.trod enc Tryz.prog w base spare held n 2 [c3] = some y3 := by have q := hf 3 _ rfl; change DataW.trod enc Tryz.prog w base spare held n 2 (([c0, c1, c2, c3, c4, c5, c6, c7, c8, c9, c10, c11, c12, c13, c14, c15, c16, c17, c18, c19].drop 3).take (Tryz.prog.cellsOf 2)) = some y3 at q; rw [cof2] at q; exact q
 have f4 : DataW.trod enc Tryz.prog w base spare held n 33 [c4, c5, c6, c7, c8, c9, c10, c11, c12, c13, c14, c15, c16, c17, c18, c19] = some y4 := by have q := hf 4 _ rfl; change DataW.trod enc Tryz.prog w base spare held n 33 (([c0, c1, c2, c3, c4, c5, c6, c7, c8, c9, c10, c11, c12, c13, c14, c15, c16, c17, c18, c19].drop 4).take (Tryz.prog.cellsOf 33)) = some y4 at q; rw [cof33] at q; exact q
 clear hf hl hlen
 simp only [bulk_agg, List.map_cons, List.map_nil, bulks_cons, bulks_nil] at hx
 obtain ⟨s0, e0, _⟩ := DataW.trod_int Tryz.underlying2 f0
 obtain ⟨s1, e1, _⟩ := DataW.trod_int Tryz.underlying21 f1
 obtain ⟨s2, e2, _⟩ := DataW.trod_int Tryz.underlying2 f2
 obtain ⟨s3, e3, _⟩ := DataW.trod_int Tryz.underlying2 f3
 obtain ⟨t, h1, h2⟩ := open_txn _ _ _ _ f4 (Nat.le_refl _) (by omega)
 cases e0; cases e1; cases e2; cases e3
 exact ⟨s0, s1, s2, s3, _, t, rfl, h1, h2⟩
theorem open_reply {fuel : Nat} {cs : List Value} {x : DataW H × List MemPlace} (h : DataW.trod enc Tryz.prog w base spare held fuel 42 cs = some x) (hx : bulk x.1 ≤ 1048576) : ∃ (x z c : Int) (rc : List Value) (rd : ResD), cs = [.int .i32 x, .int .i64 z, .int .i32 c] ++ rc ∧ ResOk rd ∧ ResR (fun b => b < w.heap.size) w rd rc := by
 obtain ⟨xs, n, _, rfl, hl, hlen, hf⟩ := DataW.trod_struct Tryz.underlying42 h
 rw [cof42] at hl
 rcases cs with _ | ⟨c0, cs⟩
 ·simp at hl
 rcases cs with _ | ⟨c1, cs⟩
 ·simp at hl
 rcases cs with _ | ⟨c2, cs⟩
 ·simp at hl
 rcases cs with _ | ⟨c3, cs⟩
 ·simp at hl
 rcases cs with _ | ⟨c4, cs⟩
 ·simp at hl
 rcases cs with _ | ⟨c5, cs⟩
 ·simp at hl
 rcases cs with _ | ⟨c6, cs⟩
 ·simp at hl
 rcases cs with _ | ⟨c7, cs⟩
 ·simp at hl
 rcases cs with _ | ⟨c8, cs⟩
 ·simp at hl
 rcases cs with _ | ⟨c9, cs⟩
 ·simp at hl
 rcases cs with _ | ⟨c10, cs⟩
 ·simp at hl
 rcases cs with _ | ⟨c11, cs⟩
 ·simp at hl
 rcases cs with _ | ⟨c12, cs⟩
 ·simp at hl
 rcases cs with _ | ⟨c13, cs⟩
 ·simp at hl
 rcases cs with _ | ⟨c14, cs⟩
 ·simp at hl
 rcases cs with _ | ⟨c15, cs⟩
 ·simp at hl
 rcases cs with _ | ⟨c16, cs⟩
 ·simp at hl
 rcases cs with _ | ⟨c17, cs⟩
 ·simp at hl
 rcases cs with _ | ⟨c18, cs⟩
 ·simp at hl
 rcases cs with _ | ⟨c19, cs⟩
 ·simp at hl
 rcases cs with _ | ⟨c20, cs⟩
 ·simp at hl
 rcases cs with _ | ⟨c21, cs⟩
 ·simp at hl
 rcases cs with _ | ⟨c22, cs⟩
 ·simp at hl
 rcases cs with _ | ⟨c23, cs⟩
 ·simp at hl
 rcases cs with _ | ⟨c24, cs⟩
 ·simp at hl
 rcases cs with _ | ⟨_, _⟩
 rotate_left
 ·simp at hl
 replace hlen : xs.length = 4 := hlen
 rcases xs with _ | ⟨y0, xs⟩
 ·simp at hlen
 rcases xs with _ | ⟨y1, xs⟩
 ·simp at hlen
 rcases xs with _ | ⟨y2, xs⟩
 ·simp at hlen
 rcases xs with _ | ⟨y3, xs⟩
 ·simp at hlen
 rcases xs with _ | ⟨_, _⟩
 rotate_left
 ·simp at hlen
 have f0 : DataW.trod enc Tryz.prog w base spare held n 21 [c0] = some y0 := by have q := hf 0 _ rfl; change DataW.trod enc Tryz.prog w base spare held n 21 (([c0, c1, c2, c3, c4, c5, c6, c7, c8, c9, c10, c11, c12, c13, c14, c15, c16, c17, c18, c19, c20, c21, c22, c23, c24].drop 0).take (Tryz.prog.cellsOf 21)) = some y0 at q; rw [cof21] at q; exact q
 have f1 : DataW.trod enc Tryz.prog w base spare held n 2 [c1] = some y1 := by have q := hf 1 _ rfl; change DataW.trod enc Tryz.prog w base spare held n 2 (([c0, c1, c2, c3, c4, c5, c6, c7, c8, c9, c10, c11, c12, c13, c14, c15, c16, c17, c18, c19, c20, c21, c22, c23, c24].drop 1).take (Tryz.prog.cellsOf 2)) = some y1 at q; rw [cof2] at q; exact q
 have f2 : DataW.trod enc Tryz.prog w base spare held n 30 [c2] = some y2 := by have q := hf 2 _ rfl; change DataW.trod enc Tryz.prog w base spare held n 30 (([c0, c1, c2, c3, c4, c5, c6, c7, c8, c9, c10, c11, c12, c13, c14, c15, c16, c17, c18, c19, c20, c21, c22, c23, c24].drop 2).take (Tryz.prog.cellsOf 30)) = some y2 at q; rw [cof30] at q; exact q
 have f3 : DataW.trod enc Tryz.prog w base spare held n 40 [c3, c4, c5, c6, c7, c8, c9, c10, c11, c12, c13, c14, c15, c16, c17, c18, c19, c20, c21, c22, c23, c24] = some y3 := by have q := hf 3 _ rfl; change DataW.trod enc Tryz.prog w base spare held n 40 (([c0, c1, c2, c3, c4, c5, c6, c7, c8, c9, c10, c11, c12, c13, c14, c15, c16, c17, c18, c19, c20, c21, c22, c23, c24].drop 3).take (Tryz.prog.cellsOf 40)) = some y3 at q; rw [cof40] at q; exact q
 clear hf hl hlen
 simp only [bulk_agg, List.map_cons, List.map_nil, bulks_cons, bulks_nil] at hx
 obtain ⟨s0, e0, _⟩ := DataW.trod_int Tryz.underlying21 f0
 obtain ⟨s1, e1, _⟩ := DataW.trod_int Tryz.underlying2 f1
 obtain ⟨s2, e2, _⟩ := DataW.trod_int Tryz.underlying30 f2
 obtain ⟨t, h1, h2⟩ := open_res _ _ _ _ f3 (Nat.le_refl _) (by omega)
 cases e0; cases e1; cases e2
 exact ⟨s0, s1, s2, _, t, rfl, h1, h2⟩
end
end
end Go.Proofs.YtfgjiidbafdndaaGreatDoor
