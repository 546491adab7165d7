/- The closed facts of the rows, one by one: together they would want too much memory. -/
import Derived.Test.YtiiiofnakgpkdaaGreatDoorRows
import Derived.JoinedOf
namespace Go.Proofs.YtiiiofnakgpkdaaGreatDoor
set_option maxRecDepth 100000
theorem fact_laidOut : laidOutB Tryz.prog = true := by kernel_rfl
theorem fact_mapsRowed : mapsRowed Tryz.prog = true := by kernel_rfl
theorem fact_stops : Tryz.prog.stops = [] := by kernel_rfl
theorem fact_stopKnobs : Tryz.prog.stopKnobs = [] := by kernel_rfl
theorem fact_plainKeys : Tryz.prog.plainKeys = false := by kernel_rfl
theorem fact_stopsHeard : Tryz.prog.stopsHeard = true := by kernel_rfl
theorem fact3_inPlace : (Rows.checkNilsRow.inPlace == Tryz.prog.inPlace 3) = true := by kernel_rfl
theorem fact3_unfollowed : (Rows.checkNilsRow.unfollowed == Tryz.prog.unfollowed 3) = true := by kernel_rfl
theorem fact3_recurses : (Rows.checkNilsRow.recurses == Tryz.prog.recurses 3) = true := by kernel_rfl
theorem fact3_named : (Rows.checkNilsRow.named == Tryz.prog.varsNamed 3) = true := by kernel_rfl
end Go.Proofs.YtiiiofnakgpkdaaGreatDoor
