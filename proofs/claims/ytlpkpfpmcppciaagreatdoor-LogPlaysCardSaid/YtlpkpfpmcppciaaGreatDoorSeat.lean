/- Facts on the whole translation that every row of the seat wants: each by the kernel's run, each a theorem of its own (all in one run out of memory). -/
import Derived.Test.YtlpkpfpmcppciaaGreatDoorRows
import Derived.Test.YtlpkpfpmcppciaaGreatDoorCards
import Derived.JoinedOf
namespace Go.Proofs.YtlpkpfpmcppciaaGreatDoor
open Go
set_option maxRecDepth 100000
theorem and2 {a b : Bool} (ha : a = true) (hb : b = true) : (a && b) = true := by rw [ha, hb]; rfl
theorem seatLaidOut : laidOutB Tryz.prog = true := by kernel_rfl
theorem seatMaps : mapsRowed Tryz.prog = true := by kernel_rfl
theorem seatStops : (Tryz.prog.stops == []) = true := by kernel_rfl
theorem seatKnobs : (Tryz.prog.stopKnobs == []) = true := by kernel_rfl
theorem seatPlainKeys : Tryz.prog.plainKeys = Rows.storeDoesRow.plainKeys := by kernel_rfl
theorem seatHeard : Tryz.prog.stopsHeard = true := by kernel_rfl
theorem seatMay : Tryz.prog.mayEnter = true := by kernel_rfl
theorem seatLifts : Tryz.prog.liftsFinal = Rows.storeDoesRow.lifted := by kernel_rfl
theorem seatMake : Tryz.prog.make = some Rows.storeDoesRow.make := by kernel_rfl
theorem seatLooks : true = Tryz.pinned.checked.prog.looks [] := by kernel_rfl
theorem seatMain : Tryz.pinned.checked.prog.mainIs = some (Rows.storeDoesCard.stood.harness.1, Rows.storeDoesCard.stood.harness.2.toList) := by kernel_rfl
end Go.Proofs.YtlpkpfpmcppciaaGreatDoor
