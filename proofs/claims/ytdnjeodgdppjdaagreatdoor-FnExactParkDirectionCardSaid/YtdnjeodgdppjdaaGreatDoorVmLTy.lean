/- Printed by vmprint.py: types of data. -/
import Derived.Test.YtdnjeodgdppjdaaGreatDoorVmSpec
namespace Go.Proofs.Vm
open Go
abbrev i64 : Ty := .int .i64
abbrev Y0 : Ty := .pair i64 (.pair i64 .unit)
abbrev DY0 := Int × Int × Unit
def Z0 : DY0 := (0, (0, ()))
abbrev Y1 : Ty := .pair .str (.pair Y0 (.pair i64 (.pair i64 (.pair i64 (.pair (.sl Y0) .unit)))))
abbrev DY1 := ByteArray × DY0 × Int × Int × Int × (List DY0) × Unit
def Z1 : DY1 := (⟨#[]⟩, (Z0, (0, (0, (0, ([], ()))))))
abbrev Y2 : Ty := .pair (.sl Y1) .unit
abbrev DY2 := (List DY1) × Unit
def Z2 : DY2 := ([], ())
abbrev Y3 : Ty := .pair Y0 (.pair Y0 .unit)
abbrev DY3 := DY0 × DY0 × Unit
def Z3 : DY3 := (Z0, (Z0, ()))
def quarter : List DY0 := [(1000, 0, ()), (966, 259, ()), (866, 500, ()), (707, 707, ()), (500, 866, ()), (259, 966, ())]
end Go.Proofs.Vm
