/- The closed facts of the rows, one by one: together they would want too much memory. -/
import Derived.Test.YtjipcihcldngbaaGreatDoorRows
import Derived.JoinedOf
namespace Go.Proofs.YtjipcihcldngbaaGreatDoor
set_option maxRecDepth 100000
theorem fact_laidOut : laidOutB Tryz.prog = true := by kernel_rfl
theorem fact_mapsRowed : mapsRowed Tryz.prog = true := by kernel_rfl
theorem fact_stops : Tryz.prog.stops = [] := by kernel_rfl
theorem fact_stopKnobs : Tryz.prog.stopKnobs = [] := by kernel_rfl
theorem fact_plainKeys : Tryz.prog.plainKeys = false := by kernel_rfl
theorem fact_stopsHeard : Tryz.prog.stopsHeard = true := by kernel_rfl
theorem fact3_inPlace : (Rows.replicaNilsRow.inPlace == Tryz.prog.inPlace 3) = true := by kernel_rfl
theorem fact3_unfollowed : (Rows.replicaNilsRow.unfollowed == Tryz.prog.unfollowed 3) = true := by kernel_rfl
theorem fact3_recurses : (Rows.replicaNilsRow.recurses == Tryz.prog.recurses 3) = true := by kernel_rfl
theorem fact3_named : (Rows.replicaNilsRow.named == Tryz.prog.varsNamed 3) = true := by kernel_rfl
end Go.Proofs.YtjipcihcldngbaaGreatDoor
