/- What the package-level variables hold, and that it stays. -/
import Derived.Test.YtfgjiidbafdndaaGreatDoorK4s
import Derived.Test.YtfgjiidbafdndaaGreatDoorK7
import Derived.Test.YtfgjiidbafdndaaGreatDoorK3
import Derived.Lib.LaidU8T
import Derived.Lib.LaidTab
import Derived.LaidLaws
import Derived.MakeChecks
namespace Go.Proofs.YtfgjiidbafdndaaGreatDoor
open Go.RowKit
structure Glob (w : World) : Prop where
 max : ∃ m, w.cell? ⟨2, 0, none⟩ = some (.int .i64 m)
 tab : Lib.Utf8Tabs 0 1 w
 pow : ∃ T fz, w.heap[3]? = some (.cells (Lib.pow10Tab.map fun z => Value.int .u64 z).toArray T fz)
 syn : ∃ ev, w.cell? ⟨4, 0, none⟩ = some ev ∧ (ev = .nilIface ∨ ∃ te pe, ev = .iface te pe)
 rng : ∃ ev, w.cell? ⟨5, 0, none⟩ = some ev ∧ (ev = .nilIface ∨ ∃ te pe, ev = .iface te pe)
theorem cell_stays {w w' : World} (hb : Below w.heap.size w w') {a : Addr} {v : Value} (hc : w.cell? a = some v) : w'.cell? a = some v := (hb.cell (World.block_lt_of_cell? w a hc)).trans hc
theorem Glob.below {w w' : World} (G : Glob w) (hb : Below w.heap.size w w') : Glob w' := by
 obtain ⟨⟨m, h1⟩, ⟨h2, h3⟩, ⟨T, fz, h4⟩, ⟨e1, h5, h6⟩, ⟨e2, h7, h8⟩⟩ := G
 refine ⟨⟨m, cell_stays hb h1⟩, ⟨fun c hc => cell_stays hb (h2 c hc), fun i hi => ⟨cell_stays hb (h3 i hi).1, cell_stays hb (h3 i hi).2⟩⟩, ⟨T, fz, ?_⟩, ⟨e1, cell_stays hb h5, h6⟩, ⟨e2, cell_stays hb h7, h8⟩⟩
 rw [hb.block 3 (Array.getElem?_eq_some_iff.1 h4).1]; exact h4
theorem Glob.tabIs {w : World} (G : Glob w) (n : String) (hn : Tryz.prog.globalNamed n = some 3) : Lib.TabIs Tryz.prog w n .u64 Lib.pow10Tab := by
 obtain ⟨T, fz, h⟩ := G.pow
 unfold Lib.TabIs World.var?
 rw [hn]
 simp only [Option.bind_some]
 rw [h]
end Go.Proofs.YtfgjiidbafdndaaGreatDoor
namespace Go.Proofs.YtfgjiidbafdndaaGreatDoor
open Go.RowKit Go.Shelf
set_option maxRecDepth 100000
def renG : Ren := { f := fun x => x, t := fun n => if n = 119 then 169 else if n = 138 then 171 else if n = 139 then 172 else n, g := fun n => if n = 3 then 0 else 1 }
theorem u8types : U8Types Tryz.prog renG := { t5 := by kernel_rfl, t119 := by kernel_rfl, t138 := by kernel_rfl, t139 := by kernel_rfl }
theorem u8extra : U8Extra Tryz.prog renG := { n3 := by kernel_rfl, n4 := by kernel_rfl, y3 := by kernel_rfl, y4 := by kernel_rfl, c5 := by kernel_rfl, c119 := by kernel_rfl, c138 := by kernel_rfl }
theorem pow_named : Tryz.prog.globalNamed "internal/strconv.uint64pow10" = some 3 := by kernel_rfl
theorem pow_type : (Tryz.prog.globals[3]?).map (·.type) = some 352 := by kernel_rfl
theorem syn_named : Tryz.prog.globalNamed "strconv.ErrSyntax" = some 4 := by kernel_rfl
theorem syn_type : (Tryz.prog.globals[4]?).map (·.type) = some 307 := by kernel_rfl
theorem rng_named : Tryz.prog.globalNamed "strconv.ErrRange" = some 5 := by kernel_rfl
theorem rng_type : (Tryz.prog.globals[5]?).map (·.type) = some 307 := by kernel_rfl
theorem cof228 : Tryz.prog.cellsOf 228 = 1 := by kernel_rfl
theorem cof352 : Tryz.prog.cellsOf 352 = 20 := by kernel_rfl
theorem pow_data : Rows.laid_internal_strconv_uint64pow10 = (Lib.tabData .u64 Lib.pow10Tab : DataW Unit) := by kernel_rfl
theorem first_data : Rows.laid_unicode_utf8_first = Lib.firstData := by kernel_rfl
theorem accept_data : Rows.laid_unicode_utf8_acceptRanges = (Lib.acceptData : DataW Unit) := by kernel_rfl
theorem max_row : (((begin Tryz.prog (fun _ _ => 0) default).world.heap[2]?).bind Obj.row?) = some (#[.int .i64 0], 3) := by kernel_rfl
theorem max_builds : Tryz.prog.buildable 3 = true := by kernel_rfl
theorem max_cells : Tryz.prog.cellTypes Tryz.prog.depth 3 = some [3] := by kernel_rfl
theorem globals_many : 2 < Tryz.prog.globals.size := of_decide_eq_true (by kernel_rfl)
theorem plain_laid : (Rows.compileMakesUptoRow.laid.all fun x => x.2.handleName?.isNone) = true := by kernel_rfl
theorem var_row {w : World} {n : String} {g : Nat} {cs : Array Value} (hn : Tryz.prog.globalNamed n = some g) (h : w.var? Tryz.prog n = some cs) : ∃ T fz, w.heap[g]? = some (.cells cs T fz) := by
 unfold World.var? at h
 rw [hn] at h
 simp only [Option.bind_some] at h
 split at h
 ·rename_i c T fz hc
  cases h
  exact ⟨T, fz, hc⟩
 ·cases h
theorem err_cell {w : World} {n : String} {g : Nat} {name : String} {d : DataW Unit} (hn : Tryz.prog.globalNamed n = some g) (hty : (Tryz.prog.globals[g]?).map (·.type) = some 307) (h : Lib.VarReads Tryz.prog w n (.iface name d)) :
  ∃ ev, w.cell? ⟨g, 0, none⟩ = some ev ∧ (ev = .nilIface ∨ ∃ te pe, ev = .iface te pe) := by
 obtain ⟨g', t, cs, fuel, p, h1, h2, h3, h4⟩ := h
 obtain rfl := Option.some.inj (hn.symm.trans h1)
 obtain rfl := Option.some.inj (hty.symm.trans h2)
 obtain ⟨_, u, v, h5, _⟩ := iface_of_trod Tryz.underlying307 h4
 obtain ⟨T, fz, h6⟩ := var_row hn h3
 refine ⟨.iface u v, ?_, .inr ⟨u, v, rfl⟩⟩
 have h7 : cs[0]? = some (.iface u v) := by rw [← Array.getElem?_toList, h5]; rfl
 simp [World.cell?, h6, h7]
theorem glob_of {w : World} (h : laidMetH Tryz.prog Rows.compileMakesUptoRow.laid w) (hs : w.ShapedOpen Tryz.prog) : Glob w := by
 rw [MakeChecks.laidMetH_plain _ _ _ plain_laid] at h
 refine ⟨?_, ?_, ?_, ?_, ?_⟩
 ·obtain ⟨cs, h1, h2, h3⟩ := hs.1 2 _ _ globals_many max_row
  obtain ⟨ts, h4, _, h5⟩ := h3 max_builds
  obtain rfl := Option.some.inj (max_cells.symm.trans h4)
  have hsz : cs.size = 1 := h2
  have h6 : cs[0]? = some cs[0] := by simp [hsz]
  obtain ⟨u, h7, h8⟩ := h5 0 _ h6
  obtain rfl : 3 = u := by simpa using h7
  unfold Cell.ok at h8
  rw [Tryz.underlying3] at h8
  cases hv : cs[0] with
  | int k n =>
   rw [hv] at h8
   obtain ⟨rfl, _⟩ := h8
   exact ⟨n, by simp [World.cell?, h1, h6, hv]⟩
  | _ => rw [hv] at h8; exact h8.elim
 ·exact utf8Tabs_of_readsT u8types u8extra (by rw [← first_data]; exact Lib.laidMet.reads h (by simp [Rows.compileMakesUptoRow])) (by rw [← accept_data]; exact Lib.laidMet.reads h (by simp [Rows.compileMakesUptoRow]))
 ·have hr : Lib.VarReads Tryz.prog w "internal/strconv.uint64pow10" (Lib.tabData .u64 Lib.pow10Tab) := by rw [← pow_data]; exact Lib.laidMet.reads h (by simp [Rows.compileMakesUptoRow])
  obtain ⟨g', t, cs, fuel, p, h1, h2, h3, h4⟩ := hr
  obtain rfl := Option.some.inj (pow_named.symm.trans h1)
  obtain rfl := Option.some.inj (pow_type.symm.trans h2)
  have h5 := Lib.cells_of_tab Tryz.underlying352 Tryz.underlying228 cof228 cof352 h4
  obtain ⟨T, fz, h6⟩ := var_row pow_named h3
  refine ⟨T, fz, ?_⟩
  rw [h6, ← h5]
 ·exact err_cell syn_named syn_type (Lib.laidMet.reads h (n := "strconv.ErrSyntax") (d := Rows.laid_strconv_ErrSyntax) (by simp [Rows.compileMakesUptoRow]))
 ·exact err_cell rng_named rng_type (Lib.laidMet.reads h (n := "strconv.ErrRange") (d := Rows.laid_strconv_ErrRange) (by simp [Rows.compileMakesUptoRow]))
end Go.Proofs.YtfgjiidbafdndaaGreatDoor
