/- Facts on the whole translation that every row of the seat wants: each by the kernel's run, each a theorem of its own (all in one run out of memory). -/
import Derived.Test.YthodlccjnbadhaaDoorRows
import Derived.Test.YthodlccjnbadhaaDoorCards
import Derived.JoinedOf
namespace Go.Proofs.YthodlccjnbadhaaDoor
open Go
set_option maxRecDepth 100000
theorem and2 {a b : Bool} (ha : a = true) (hb : b = true) : (a && b) = true := by rw [ha, hb]; rfl
theorem seatLaidOut : laidOutB Tryd.prog = true := by kernel_rfl
theorem seatMaps : mapsRowed Tryd.prog = true := by kernel_rfl
theorem seatStops : (Tryd.prog.stops == []) = true := by kernel_rfl
theorem seatKnobs : (Tryd.prog.stopKnobs == []) = true := by kernel_rfl
theorem seatPlainKeys : Tryd.prog.plainKeys = Rows.diskPlaysRow.plainKeys := by kernel_rfl
theorem seatHeard : Tryd.prog.stopsHeard = true := by kernel_rfl
theorem seatMay : Tryd.prog.mayEnter = true := by kernel_rfl
theorem seatLifts : Tryd.prog.liftsFinal = Rows.diskPlaysRow.lifted := by kernel_rfl
theorem seatMake : Tryd.prog.make = some Rows.diskPlaysRow.make := by kernel_rfl
theorem seatLooks : true = Tryd.pinned.checked.prog.looks [] := by kernel_rfl
theorem seatMain : Tryd.pinned.checked.prog.mainIs = some (Rows.diskPlaysCard.stood.harness.1, Rows.diskPlaysCard.stood.harness.2.toList) := by kernel_rfl
end Go.Proofs.YthodlccjnbadhaaDoor
