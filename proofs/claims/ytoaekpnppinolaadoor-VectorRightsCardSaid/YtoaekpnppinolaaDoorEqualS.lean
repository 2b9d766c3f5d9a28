/- slices.Equal over slices of entries, tokens and writes. -/
import Derived.Test.YtoaekpnppinolaaDoorEqStruct
namespace Go.Proofs.YtoaekpnppinolaaDoor
open Go.RowKit
/-- A token: its own text, how far back, how many. A write: its time, its replica, its kind, its key, its value, its number. -/
abbrev Tok := ByteArray × Int × Int
def tokCells (x : Tok) : List Value := [.string x.1, .int .i64 x.2.1, .int .i64 x.2.2]
abbrev Wr := Int × Int × Int × ByteArray × ByteArray × Int
def wrCells (x : Wr) : List Value := [.int .i64 x.1, .int .i64 x.2.1, .int .i64 x.2.2.1, .string x.2.2.2.1, .string x.2.2.2.2.1, .int .i64 x.2.2.2.2.2]
abbrev Ent := Int × Int
def entCells (x : Ent) : List Value := [.int .i64 x.1, .int .i64 x.2]
end Go.Proofs.YtoaekpnppinolaaDoor
