/- The closed facts of the row, one by one. -/
import Derived.Test.YtfgjiidbafdndaaGreatDoorRows
import Derived.Test.YtfgjiidbafdndaaGreatDoorCards
import Derived.JoinedOf
import Derived.SevenTiedAt
import Derived.Lay
import Derived.Deep.DeepWitnessRowRef
import Derived.Stop.Joined
namespace Go.Proofs.YtfgjiidbafdndaaGreatDoor
open Go.ChangeShapes Go.WideShapes Go.ChangeAt
set_option maxRecDepth 100000
theorem fact_laidOut : laidOutB Tryz.prog = true := by kernel_rfl
theorem fact_mapsRowed : mapsRowed Tryz.prog = true := by kernel_rfl
theorem fact_stops : Tryz.prog.stops = [] := by kernel_rfl
theorem fact_stopKnobs : Tryz.prog.stopKnobs = [] := by kernel_rfl
theorem fact_plainKeys : Tryz.prog.plainKeys = false := by kernel_rfl
theorem fact_stopsHeard : Tryz.prog.stopsHeard = true := by kernel_rfl
theorem fact3_inPlace : (Rows.compileMakesUptoRow.inPlace == Tryz.prog.inPlace 3) = true := by kernel_rfl
theorem fact3_unfollowed : (Rows.compileMakesUptoRow.unfollowed == Tryz.prog.unfollowed 3) = true := by kernel_rfl
theorem fact3_recurses : (Rows.compileMakesUptoRow.recurses == Tryz.prog.recurses 3) = true := by kernel_rfl
theorem fact3_named : (Rows.compileMakesUptoRow.named == Tryz.prog.varsNamed 3) = true := by kernel_rfl
theorem fact_wf : OpenClaim.wfByText (Rows.OpenSpec.upto Rows.compileMakesSpec) Rows.compileMakesUptoRow = true := by kernel_rfl
theorem fact_mainIs : Tryz.pinned.checked.prog.mainIs = some (true, ("fe75fd89b2ed9ac1d0fdbf24666d7dcdb5468da34d0d3b50d8356c927932e60b" : String).toList) := by kernel_rfl
theorem fact_looks : true = Tryz.pinned.checked.prog.looks [] := by kernel_rfl
theorem fact_standIns : ([35, 42, 30].all fun u => !Tryz.prog.wantsStandIn u) = true := by kernel_rfl
theorem fact_goesBy : false = Rows.compileMakesUptoRow.goesBy Tryz.pinned.checked.prog := by kernel_rfl
theorem fact_funcIs : Tryz.pinned.checked.prog.funcNamed Rows.compileMakesUptoRow.func = some 3 := by kernel_rfl
theorem fact_own : ownKnob Tryz.prog.godebug = none := by kernel_rfl
theorem fact_noInit : Tryz.checked.prog.inits.idxOf? 3 = none := by kernel_rfl
theorem fact_plain : (Rows.compileMakesUptoRow.laid.all fun x => x.2.handleName?.isNone) = true := by kernel_rfl
def wargs : Array Value := #[.agg #[.int .i64 0, .int .i32 0, .int .i64 0, .int .i64 0, .int .i32 0, .string ⟨#[]⟩, .slice none 0 0, .slice none 0 0, .int .i64 0, .int .i32 0, .int .i32 0, .bool false, .int .i64 0, .int .i64 0, .int .i64 0, .int .i32 0, .slice none 0 0, .slice none 0 0, .int .i32 0, .slice none 0 0],
 .agg #[.int .i32 0, .int .i64 0, .int .i32 0, .int .i32 0, .int .i32 0, .string ⟨#[]⟩, .int .i64 0, .int .i64 0, .int .i64 0, .int .i64 0, .int .i32 0, .int .i32 0, .int .i32 0, .int .i64 0, .int .i32 0, .int .i32 0, .int .i64 0, .slice none 0 0, .slice none 0 0, .slice none 0 0, .int .i32 0, .int .i64 0, .int .i32 0, .slice none 0 0, .slice none 0 0],
 .int .i32 0]
noncomputable def wworld (os : Os) : World := World.laidAll Tryz.prog os Rows.compileMakesUptoRow.laid
theorem w_refs (os : Os) : ((wworld os).forCall (fun _ _ => 0) ⟨#[], wargs, []⟩).variablesRefB Tryz.checked.prog = true := by kernel_rfl
theorem w_rest (os : Os) : (((wworld os).forCall (fun _ _ => 0) ⟨#[], wargs, []⟩).heap.toList.drop Tryz.checked.prog.globals.size).take ((begin Tryz.checked.prog (fun _ _ => 0) default).world.heap.size - Tryz.checked.prog.globals.size) =
   (begin Tryz.checked.prog (fun _ _ => 0) default).world.heap.toList.drop Tryz.checked.prog.globals.size := by kernel_rfl
theorem w_ok (os : Os) : Input.okWideB Tryz.checked.prog ((wworld os).forCall (fun _ _ => 0) ⟨#[], wargs, []⟩) 3 ⟨#[], wargs, []⟩ = true := by kernel_rfl
theorem w_met (os : Os) : laidMetH Tryz.prog Rows.compileMakesUptoRow.laid ((wworld os).forCall (fun _ _ => 0) ⟨#[], wargs, []⟩).memory := by
 rw [MakeChecks.laidMetH_plain _ _ _ fact_plain]
 exact laidMet_laidAll _ (by kernel_rfl) (by kernel_rfl)
theorem w_reads0 (os : Os) {H : Type} (enc : TypeId × Value → H) : (DataW.whole enc Tryz.prog ((wworld os).forCall (fun _ _ => 0) ⟨#[], wargs, []⟩).memory Tryz.f3.params.toList Rows.compileMakesSpec.vars false wargs.toList 8).map (fun x => Rows.uptoSmall H (x.1 ++ x.2.1)) = some true := by kernel_rfl
theorem w_reads (os : Os) {H : Type} (enc : TypeId × Value → H) : ∃ x, DataW.whole enc Tryz.prog ((wworld os).forCall (fun _ _ => 0) ⟨#[], wargs, []⟩).memory Tryz.f3.params.toList Rows.compileMakesSpec.vars false wargs.toList 8 = some x ∧ Rows.uptoSmall H (x.1 ++ x.2.1) = true := by
 have h := w_reads0 os enc
 cases hx : DataW.whole enc Tryz.prog ((wworld os).forCall (fun _ _ => 0) ⟨#[], wargs, []⟩).memory Tryz.f3.params.toList Rows.compileMakesSpec.vars false wargs.toList 8 with
 | none => rw [hx] at h; cases h
 | some x => rw [hx] at h; exact ⟨x, rfl, by simpa using h⟩
theorem w_sized (os : Os) {H : Type} (enc : TypeId × Value → H) : (Rows.OpenSpec.upto Rows.compileMakesSpec).bare.sizedB enc Tryz.prog Tryz.f3 false ((wworld os).forCall (fun _ _ => 0) ⟨#[], wargs, []⟩).memory wargs 8 = true := by kernel_rfl
end Go.Proofs.YtfgjiidbafdndaaGreatDoor
