/-
  NARROWER THAN 'FOR EVERY INPUT', by the rows' own cells (each row's printed sentence says how): FnExactFreeToVane: laid · FnExactParkDirection: laid · FnExactSiteConflicts: laid · FnExactSafeWinds: laid · FnExactVaneConflicts: laid · FnExactVaneGroups: laid · FnVaning: laid · FnHindered: laid · FnTimeTables: laid · FnExactTimeTable: laid · FnExactCriticalTime: laid · FnExactWorkBound: laid.
  DERIVED. THE GIVEN ROWS OF THIS SEAT. 12 by the template 'for every input the law returns true; each argument reads behind the call as it read before'; 0 by the template 'total and deterministic' (their statements: YtdnjeodgdppjdaaGreatDoorTotals.lean).
  GIVEN WITH THE SEED: the statements are not yours to turn. If you find one false, say at which input.
  Laid BY PROGRAM, IN A SANDBOX (cutbox-rows.mjs): the forced cells as the released guide's own fill.sh prints them over the translation 84e3fde8cc03117e… (all of the seat's roots in one cut). By AI agents, Wed Nov 11 2026. No macro, syntax, notation, axiom, sorry.
-/
import Derived.Test.YtdnjeodgdppjdaaGreatDoorChecked
import GoSem.Claim
import GoSem.ClaimJoined
import GoSem.ClaimMapViews
import Derived.JoinedTies
import Derived.KernelRfl
namespace Go.Proofs.YtdnjeodgdppjdaaGreatDoor
/- THE CELL 'sum', in the pinned program and in every row, IS THE sha256 OF THE DUMP (.gsa) THAT YtdnjeodgdppjdaaGreatDoorProg.lean LOADS. Nothing in Lean hashes anything: it is a label: what it is worth is what the hold of that sum in a sandbox is worth. -/
noncomputable def Tryz.pinned : Pinned := { name := "ytdnjeodgdppjdaagreatdoor", sum := "84e3fde8cc03117e5fa54cf92c8a70c9561e6406d50d9704fd23d6dbcd9870f5", checked := Tryz.checked }
namespace Rows
def none {H : Type} : Left H := { results := [], args := [] }

/- WHAT THE LISTED PACKAGE-LEVEL VARIABLES READ AS WHEN THE CALL BEGINS. Each datum BY PROGRAM (the guide's laid-datum.mjs) off the statement by which the dump's own 'gosem.cut.vars' lays the variable. In a bare row this is a premise. The card (YtdnjeodgdppjdaaGreatDoorCards.lean) ties it to the program's text. -/
def laid_loop_example_g00932_impl_quarter {H : Type} : DataW H := .agg [.agg [.lit (.int .i64 1000), .lit (.int .i64 0)], .agg [.lit (.int .i64 966), .lit (.int .i64 259)], .agg [.lit (.int .i64 866), .lit (.int .i64 500)], .agg [.lit (.int .i64 707), .lit (.int .i64 707)], .agg [.lit (.int .i64 500), .lit (.int .i64 866)], .agg [.lit (.int .i64 259), .lit (.int .i64 966)]]
def laid_math_bits_deBruijn32tab {H : Type} : DataW H := .agg [.lit (.int .u8 0), .lit (.int .u8 1), .lit (.int .u8 28), .lit (.int .u8 2), .lit (.int .u8 29), .lit (.int .u8 14), .lit (.int .u8 24), .lit (.int .u8 3), .lit (.int .u8 30), .lit (.int .u8 22), .lit (.int .u8 20), .lit (.int .u8 15), .lit (.int .u8 25), .lit (.int .u8 17), .lit (.int .u8 4), .lit (.int .u8 8), .lit (.int .u8 31), .lit (.int .u8 27), .lit (.int .u8 13), .lit (.int .u8 23), .lit (.int .u8 21), .lit (.int .u8 19), .lit (.int .u8 16), .lit (.int .u8 7), .lit (.int .u8 26), .lit (.int .u8 12), .lit (.int .u8 18), .lit (.int .u8 6), .lit (.int .u8 11), .lit (.int .u8 5), .lit (.int .u8 10), .lit (.int .u8 9)]
def laid_math_bits_deBruijn64tab {H : Type} : DataW H := .agg [.lit (.int .u8 0), .lit (.int .u8 1), .lit (.int .u8 56), .lit (.int .u8 2), .lit (.int .u8 57), .lit (.int .u8 49), .lit (.int .u8 28), .lit (.int .u8 3), .lit (.int .u8 61), .lit (.int .u8 58), .lit (.int .u8 42), .lit (.int .u8 50), .lit (.int .u8 38), .lit (.int .u8 29), .lit (.int .u8 17), .lit (.int .u8 4), .lit (.int .u8 62), .lit (.int .u8 47), .lit (.int .u8 59), .lit (.int .u8 36), .lit (.int .u8 45), .lit (.int .u8 43), .lit (.int .u8 51), .lit (.int .u8 22), .lit (.int .u8 53), .lit (.int .u8 39), .lit (.int .u8 33), .lit (.int .u8 30), .lit (.int .u8 24), .lit (.int .u8 18), .lit (.int .u8 12), .lit (.int .u8 5), .lit (.int .u8 63), .lit (.int .u8 55), .lit (.int .u8 48), .lit (.int .u8 27), .lit (.int .u8 60), .lit (.int .u8 41), .lit (.int .u8 37), .lit (.int .u8 16), .lit (.int .u8 46), .lit (.int .u8 35), .lit (.int .u8 44), .lit (.int .u8 21), .lit (.int .u8 52), .lit (.int .u8 32), .lit (.int .u8 23), .lit (.int .u8 11), .lit (.int .u8 54), .lit (.int .u8 26), .lit (.int .u8 40), .lit (.int .u8 15), .lit (.int .u8 34), .lit (.int .u8 20), .lit (.int .u8 31), .lit (.int .u8 10), .lit (.int .u8 25), .lit (.int .u8 14), .lit (.int .u8 19), .lit (.int .u8 9), .lit (.int .u8 13), .lit (.int .u8 8), .lit (.int .u8 7), .lit (.int .u8 6)]
def laid_internal_strconv_uint64pow10 {H : Type} : DataW H := .agg [.lit (.int .u64 1), .lit (.int .u64 10), .lit (.int .u64 100), .lit (.int .u64 1000), .lit (.int .u64 10000), .lit (.int .u64 100000), .lit (.int .u64 1000000), .lit (.int .u64 10000000), .lit (.int .u64 100000000), .lit (.int .u64 1000000000), .lit (.int .u64 10000000000), .lit (.int .u64 100000000000), .lit (.int .u64 1000000000000), .lit (.int .u64 10000000000000), .lit (.int .u64 100000000000000), .lit (.int .u64 1000000000000000), .lit (.int .u64 10000000000000000), .lit (.int .u64 100000000000000000), .lit (.int .u64 1000000000000000000), .lit (.int .u64 10000000000000000000)]

/-- 'laws.FnExactFreeToVane': WHATEVER THE INPUT: true; the input reads as it did. -/
def fnExactFreeToVaneSpec : ChangeSpec := { name := "fnExactFreeToVane", vars := ["loop.example/g00932/impl.quarter"], fn := fun _ => fun
  | [d1, d2, d3, g1] => { results := [.lit (.bool true)], args := [d1, d2, d3], vars := [g1] }
  | _ => none }
def fnExactFreeToVaneRow : OpenClaim := { program := "ytdnjeodgdppjdaagreatdoor", sum := "84e3fde8cc03117e5fa54cf92c8a70c9561e6406d50d9704fd23d6dbcd9870f5", func := "loop.example/g00932/laws.FnExactFreeToVane", spec := "fnExactFreeToVane", unfollowed := true, recurses := true, named := ["loop.example/g00932/impl.quarter"], apart := false, laid := [("loop.example/g00932/impl.quarter", laid_loop_example_g00932_impl_quarter)] }
def FnExactFreeToVaneSaid : Prop := fnExactFreeToVaneRow.holds Tryz.pinned (OpenSpec.ofChange fnExactFreeToVaneSpec)

/-- ITS FALSE NEIGHBOUR: 'it returns false'. Refute it at one input. -/
def fnExactFreeToVaneWrong : ChangeSpec := { name := "fnExactFreeToVane", vars := ["loop.example/g00932/impl.quarter"], fn := fun _ => fun
  | [d1, d2, d3, g1] => { results := [.lit (.bool false)], args := [d1, d2, d3], vars := [g1] }
  | _ => none }
def FnExactFreeToVaneWrongFalsely : Prop := fnExactFreeToVaneRow.holds Tryz.pinned (OpenSpec.ofChange fnExactFreeToVaneWrong)

/-- 'laws.FnExactParkDirection': WHATEVER THE INPUT: true; the input reads as it did. -/
def fnExactParkDirectionSpec : ChangeSpec := { name := "fnExactParkDirection", vars := ["loop.example/g00932/impl.quarter"], fn := fun _ => fun
  | [d1, d2, d3, g1] => { results := [.lit (.bool true)], args := [d1, d2, d3], vars := [g1] }
  | _ => none }
def fnExactParkDirectionRow : OpenClaim := { program := "ytdnjeodgdppjdaagreatdoor", sum := "84e3fde8cc03117e5fa54cf92c8a70c9561e6406d50d9704fd23d6dbcd9870f5", func := "loop.example/g00932/laws.FnExactParkDirection", spec := "fnExactParkDirection", unfollowed := true, recurses := true, named := ["loop.example/g00932/impl.quarter"], apart := false, laid := [("loop.example/g00932/impl.quarter", laid_loop_example_g00932_impl_quarter)] }
def FnExactParkDirectionSaid : Prop := fnExactParkDirectionRow.holds Tryz.pinned (OpenSpec.ofChange fnExactParkDirectionSpec)

/-- ITS FALSE NEIGHBOUR: 'it returns false'. Refute it at one input. -/
def fnExactParkDirectionWrong : ChangeSpec := { name := "fnExactParkDirection", vars := ["loop.example/g00932/impl.quarter"], fn := fun _ => fun
  | [d1, d2, d3, g1] => { results := [.lit (.bool false)], args := [d1, d2, d3], vars := [g1] }
  | _ => none }
def FnExactParkDirectionWrongFalsely : Prop := fnExactParkDirectionRow.holds Tryz.pinned (OpenSpec.ofChange fnExactParkDirectionWrong)

/-- 'laws.FnExactSiteConflicts': WHATEVER THE INPUT: true; the input reads as it did. -/
def fnExactSiteConflictsSpec : ChangeSpec := { name := "fnExactSiteConflicts", vars := ["loop.example/g00932/impl.quarter"], fn := fun _ => fun
  | [d1, d2, d3, g1] => { results := [.lit (.bool true)], args := [d1, d2, d3], vars := [g1] }
  | _ => none }
def fnExactSiteConflictsRow : OpenClaim := { program := "ytdnjeodgdppjdaagreatdoor", sum := "84e3fde8cc03117e5fa54cf92c8a70c9561e6406d50d9704fd23d6dbcd9870f5", func := "loop.example/g00932/laws.FnExactSiteConflicts", spec := "fnExactSiteConflicts", unfollowed := true, recurses := true, named := ["loop.example/g00932/impl.quarter"], apart := false, laid := [("loop.example/g00932/impl.quarter", laid_loop_example_g00932_impl_quarter)] }
def FnExactSiteConflictsSaid : Prop := fnExactSiteConflictsRow.holds Tryz.pinned (OpenSpec.ofChange fnExactSiteConflictsSpec)

/-- ITS FALSE NEIGHBOUR: 'it returns false'. Refute it at one input. -/
def fnExactSiteConflictsWrong : ChangeSpec := { name := "fnExactSiteConflicts", vars := ["loop.example/g00932/impl.quarter"], fn := fun _ => fun
  | [d1, d2, d3, g1] => { results := [.lit (.bool false)], args := [d1, d2, d3], vars := [g1] }
  | _ => none }
def FnExactSiteConflictsWrongFalsely : Prop := fnExactSiteConflictsRow.holds Tryz.pinned (OpenSpec.ofChange fnExactSiteConflictsWrong)

/-- 'laws.FnExactSafeWinds': WHATEVER THE INPUT: true; the input reads as it did. -/
def fnExactSafeWindsSpec : ChangeSpec := { name := "fnExactSafeWinds", vars := ["loop.example/g00932/impl.quarter"], fn := fun _ => fun
  | [d1, d2, d3, g1] => { results := [.lit (.bool true)], args := [d1, d2, d3], vars := [g1] }
  | _ => none }
def fnExactSafeWindsRow : OpenClaim := { program := "ytdnjeodgdppjdaagreatdoor", sum := "84e3fde8cc03117e5fa54cf92c8a70c9561e6406d50d9704fd23d6dbcd9870f5", func := "loop.example/g00932/laws.FnExactSafeWinds", spec := "fnExactSafeWinds", unfollowed := true, recurses := true, named := ["loop.example/g00932/impl.quarter"], apart := false, laid := [("loop.example/g00932/impl.quarter", laid_loop_example_g00932_impl_quarter)] }
def FnExactSafeWindsSaid : Prop := fnExactSafeWindsRow.holds Tryz.pinned (OpenSpec.ofChange fnExactSafeWindsSpec)

/-- ITS FALSE NEIGHBOUR: 'it returns false'. Refute it at one input. -/
def fnExactSafeWindsWrong : ChangeSpec := { name := "fnExactSafeWinds", vars := ["loop.example/g00932/impl.quarter"], fn := fun _ => fun
  | [d1, d2, d3, g1] => { results := [.lit (.bool false)], args := [d1, d2, d3], vars := [g1] }
  | _ => none }
def FnExactSafeWindsWrongFalsely : Prop := fnExactSafeWindsRow.holds Tryz.pinned (OpenSpec.ofChange fnExactSafeWindsWrong)

/-- 'laws.FnExactVaneConflicts': WHATEVER THE INPUT: true; the input reads as it did. -/
def fnExactVaneConflictsSpec : ChangeSpec := { name := "fnExactVaneConflicts", vars := ["loop.example/g00932/impl.quarter"], fn := fun _ => fun
  | [d1, d2, d3, d4, g1] => { results := [.lit (.bool true)], args := [d1, d2, d3, d4], vars := [g1] }
  | _ => none }
def fnExactVaneConflictsRow : OpenClaim := { program := "ytdnjeodgdppjdaagreatdoor", sum := "84e3fde8cc03117e5fa54cf92c8a70c9561e6406d50d9704fd23d6dbcd9870f5", func := "loop.example/g00932/laws.FnExactVaneConflicts", spec := "fnExactVaneConflicts", unfollowed := true, recurses := true, named := ["loop.example/g00932/impl.quarter"], apart := false, laid := [("loop.example/g00932/impl.quarter", laid_loop_example_g00932_impl_quarter)] }
def FnExactVaneConflictsSaid : Prop := fnExactVaneConflictsRow.holds Tryz.pinned (OpenSpec.ofChange fnExactVaneConflictsSpec)

/-- ITS FALSE NEIGHBOUR: 'it returns false'. Refute it at one input. -/
def fnExactVaneConflictsWrong : ChangeSpec := { name := "fnExactVaneConflicts", vars := ["loop.example/g00932/impl.quarter"], fn := fun _ => fun
  | [d1, d2, d3, d4, g1] => { results := [.lit (.bool false)], args := [d1, d2, d3, d4], vars := [g1] }
  | _ => none }
def FnExactVaneConflictsWrongFalsely : Prop := fnExactVaneConflictsRow.holds Tryz.pinned (OpenSpec.ofChange fnExactVaneConflictsWrong)

/-- 'laws.FnExactVaneGroups': WHATEVER THE INPUT: true; the input reads as it did. -/
def fnExactVaneGroupsSpec : ChangeSpec := { name := "fnExactVaneGroups", vars := ["loop.example/g00932/impl.quarter"], fn := fun _ => fun
  | [d1, d2, g1] => { results := [.lit (.bool true)], args := [d1, d2], vars := [g1] }
  | _ => none }
def fnExactVaneGroupsRow : OpenClaim := { program := "ytdnjeodgdppjdaagreatdoor", sum := "84e3fde8cc03117e5fa54cf92c8a70c9561e6406d50d9704fd23d6dbcd9870f5", func := "loop.example/g00932/laws.FnExactVaneGroups", spec := "fnExactVaneGroups", unfollowed := true, recurses := true, named := ["loop.example/g00932/impl.quarter"], apart := false, laid := [("loop.example/g00932/impl.quarter", laid_loop_example_g00932_impl_quarter)] }
def FnExactVaneGroupsSaid : Prop := fnExactVaneGroupsRow.holds Tryz.pinned (OpenSpec.ofChange fnExactVaneGroupsSpec)

/-- ITS FALSE NEIGHBOUR: 'it returns false'. Refute it at one input. -/
def fnExactVaneGroupsWrong : ChangeSpec := { name := "fnExactVaneGroups", vars := ["loop.example/g00932/impl.quarter"], fn := fun _ => fun
  | [d1, d2, g1] => { results := [.lit (.bool false)], args := [d1, d2], vars := [g1] }
  | _ => none }
def FnExactVaneGroupsWrongFalsely : Prop := fnExactVaneGroupsRow.holds Tryz.pinned (OpenSpec.ofChange fnExactVaneGroupsWrong)

/-- 'laws.FnVaning': WHATEVER THE INPUT: true; the input reads as it did. -/
def fnVaningSpec : ChangeSpec := { name := "fnVaning", vars := ["loop.example/g00932/impl.quarter"], fn := fun _ => fun
  | [d, g1] => { results := [.lit (.bool true)], args := [d], vars := [g1] }
  | _ => none }
def fnVaningRow : OpenClaim := { program := "ytdnjeodgdppjdaagreatdoor", sum := "84e3fde8cc03117e5fa54cf92c8a70c9561e6406d50d9704fd23d6dbcd9870f5", func := "loop.example/g00932/laws.FnVaning", spec := "fnVaning", unfollowed := true, recurses := true, named := ["loop.example/g00932/impl.quarter"], apart := false, laid := [("loop.example/g00932/impl.quarter", laid_loop_example_g00932_impl_quarter)] }
def FnVaningSaid : Prop := fnVaningRow.holds Tryz.pinned (OpenSpec.ofChange fnVaningSpec)

/-- ITS FALSE NEIGHBOUR: 'it returns false'. Refute it at one input. -/
def fnVaningWrong : ChangeSpec := { name := "fnVaning", vars := ["loop.example/g00932/impl.quarter"], fn := fun _ => fun
  | [d, g1] => { results := [.lit (.bool false)], args := [d], vars := [g1] }
  | _ => none }
def FnVaningWrongFalsely : Prop := fnVaningRow.holds Tryz.pinned (OpenSpec.ofChange fnVaningWrong)

/-- 'laws.FnHindered': WHATEVER THE INPUT: true; the input reads as it did. -/
def fnHinderedSpec : ChangeSpec := { name := "fnHindered", vars := ["loop.example/g00932/impl.quarter"], fn := fun _ => fun
  | [d, g1] => { results := [.lit (.bool true)], args := [d], vars := [g1] }
  | _ => none }
def fnHinderedRow : OpenClaim := { program := "ytdnjeodgdppjdaagreatdoor", sum := "84e3fde8cc03117e5fa54cf92c8a70c9561e6406d50d9704fd23d6dbcd9870f5", func := "loop.example/g00932/laws.FnHindered", spec := "fnHindered", unfollowed := true, recurses := true, named := ["loop.example/g00932/impl.quarter"], apart := false, laid := [("loop.example/g00932/impl.quarter", laid_loop_example_g00932_impl_quarter)] }
def FnHinderedSaid : Prop := fnHinderedRow.holds Tryz.pinned (OpenSpec.ofChange fnHinderedSpec)

/-- ITS FALSE NEIGHBOUR: 'it returns false'. Refute it at one input. -/
def fnHinderedWrong : ChangeSpec := { name := "fnHindered", vars := ["loop.example/g00932/impl.quarter"], fn := fun _ => fun
  | [d, g1] => { results := [.lit (.bool false)], args := [d], vars := [g1] }
  | _ => none }
def FnHinderedWrongFalsely : Prop := fnHinderedRow.holds Tryz.pinned (OpenSpec.ofChange fnHinderedWrong)

/-- 'laws.FnTimeTables': WHATEVER THE INPUT: true; the input reads as it did. -/
def fnTimeTablesSpec : ChangeSpec := { name := "fnTimeTables", vars := ["loop.example/g00932/impl.quarter"], fn := fun _ => fun
  | [d1, d2, g1] => { results := [.lit (.bool true)], args := [d1, d2], vars := [g1] }
  | _ => none }
def fnTimeTablesRow : OpenClaim := { program := "ytdnjeodgdppjdaagreatdoor", sum := "84e3fde8cc03117e5fa54cf92c8a70c9561e6406d50d9704fd23d6dbcd9870f5", func := "loop.example/g00932/laws.FnTimeTables", spec := "fnTimeTables", unfollowed := true, recurses := true, named := ["loop.example/g00932/impl.quarter", "internal/strconv.uint64pow10", "math/bits.deBruijn32tab", "math/bits.deBruijn64tab"], apart := false, laid := [("math/bits.deBruijn32tab", laid_math_bits_deBruijn32tab), ("math/bits.deBruijn64tab", laid_math_bits_deBruijn64tab), ("internal/strconv.uint64pow10", laid_internal_strconv_uint64pow10), ("loop.example/g00932/impl.quarter", laid_loop_example_g00932_impl_quarter)] }
def FnTimeTablesSaid : Prop := fnTimeTablesRow.holds Tryz.pinned (OpenSpec.ofChange fnTimeTablesSpec)

/-- ITS FALSE NEIGHBOUR: 'it returns false'. Refute it at one input. -/
def fnTimeTablesWrong : ChangeSpec := { name := "fnTimeTables", vars := ["loop.example/g00932/impl.quarter"], fn := fun _ => fun
  | [d1, d2, g1] => { results := [.lit (.bool false)], args := [d1, d2], vars := [g1] }
  | _ => none }
def FnTimeTablesWrongFalsely : Prop := fnTimeTablesRow.holds Tryz.pinned (OpenSpec.ofChange fnTimeTablesWrong)

/-- 'laws.FnExactTimeTable': WHATEVER THE INPUT: true; the input reads as it did. -/
def fnExactTimeTableSpec : ChangeSpec := { name := "fnExactTimeTable", vars := ["loop.example/g00932/impl.quarter"], fn := fun _ => fun
  | [d1, d2, d3, g1] => { results := [.lit (.bool true)], args := [d1, d2, d3], vars := [g1] }
  | _ => none }
def fnExactTimeTableRow : OpenClaim := { program := "ytdnjeodgdppjdaagreatdoor", sum := "84e3fde8cc03117e5fa54cf92c8a70c9561e6406d50d9704fd23d6dbcd9870f5", func := "loop.example/g00932/laws.FnExactTimeTable", spec := "fnExactTimeTable", unfollowed := true, recurses := true, named := ["loop.example/g00932/impl.quarter"], apart := false, laid := [("loop.example/g00932/impl.quarter", laid_loop_example_g00932_impl_quarter)] }
def FnExactTimeTableSaid : Prop := fnExactTimeTableRow.holds Tryz.pinned (OpenSpec.ofChange fnExactTimeTableSpec)

/-- ITS FALSE NEIGHBOUR: 'it returns false'. Refute it at one input. -/
def fnExactTimeTableWrong : ChangeSpec := { name := "fnExactTimeTable", vars := ["loop.example/g00932/impl.quarter"], fn := fun _ => fun
  | [d1, d2, d3, g1] => { results := [.lit (.bool false)], args := [d1, d2, d3], vars := [g1] }
  | _ => none }
def FnExactTimeTableWrongFalsely : Prop := fnExactTimeTableRow.holds Tryz.pinned (OpenSpec.ofChange fnExactTimeTableWrong)

/-- 'laws.FnExactCriticalTime': WHATEVER THE INPUT: true; the input reads as it did. -/
def fnExactCriticalTimeSpec : ChangeSpec := { name := "fnExactCriticalTime", vars := ["loop.example/g00932/impl.quarter"], fn := fun _ => fun
  | [d1, d2, d3, g1] => { results := [.lit (.bool true)], args := [d1, d2, d3], vars := [g1] }
  | _ => none }
def fnExactCriticalTimeRow : OpenClaim := { program := "ytdnjeodgdppjdaagreatdoor", sum := "84e3fde8cc03117e5fa54cf92c8a70c9561e6406d50d9704fd23d6dbcd9870f5", func := "loop.example/g00932/laws.FnExactCriticalTime", spec := "fnExactCriticalTime", unfollowed := true, recurses := true, named := ["loop.example/g00932/impl.quarter"], apart := false, laid := [("loop.example/g00932/impl.quarter", laid_loop_example_g00932_impl_quarter)] }
def FnExactCriticalTimeSaid : Prop := fnExactCriticalTimeRow.holds Tryz.pinned (OpenSpec.ofChange fnExactCriticalTimeSpec)

/-- ITS FALSE NEIGHBOUR: 'it returns false'. Refute it at one input. -/
def fnExactCriticalTimeWrong : ChangeSpec := { name := "fnExactCriticalTime", vars := ["loop.example/g00932/impl.quarter"], fn := fun _ => fun
  | [d1, d2, d3, g1] => { results := [.lit (.bool false)], args := [d1, d2, d3], vars := [g1] }
  | _ => none }
def FnExactCriticalTimeWrongFalsely : Prop := fnExactCriticalTimeRow.holds Tryz.pinned (OpenSpec.ofChange fnExactCriticalTimeWrong)

/-- 'laws.FnExactWorkBound': WHATEVER THE INPUT: true; the input reads as it did. -/
def fnExactWorkBoundSpec : ChangeSpec := { name := "fnExactWorkBound", vars := ["loop.example/g00932/impl.quarter"], fn := fun _ => fun
  | [d1, d2, d3, g1] => { results := [.lit (.bool true)], args := [d1, d2, d3], vars := [g1] }
  | _ => none }
def fnExactWorkBoundRow : OpenClaim := { program := "ytdnjeodgdppjdaagreatdoor", sum := "84e3fde8cc03117e5fa54cf92c8a70c9561e6406d50d9704fd23d6dbcd9870f5", func := "loop.example/g00932/laws.FnExactWorkBound", spec := "fnExactWorkBound", unfollowed := true, recurses := true, named := ["loop.example/g00932/impl.quarter"], apart := false, laid := [("loop.example/g00932/impl.quarter", laid_loop_example_g00932_impl_quarter)] }
def FnExactWorkBoundSaid : Prop := fnExactWorkBoundRow.holds Tryz.pinned (OpenSpec.ofChange fnExactWorkBoundSpec)

/-- ITS FALSE NEIGHBOUR: 'it returns false'. Refute it at one input. -/
def fnExactWorkBoundWrong : ChangeSpec := { name := "fnExactWorkBound", vars := ["loop.example/g00932/impl.quarter"], fn := fun _ => fun
  | [d1, d2, d3, g1] => { results := [.lit (.bool false)], args := [d1, d2, d3], vars := [g1] }
  | _ => none }
def FnExactWorkBoundWrongFalsely : Prop := fnExactWorkBoundRow.holds Tryz.pinned (OpenSpec.ofChange fnExactWorkBoundWrong)

/- THE SECOND FORM. 'bulk': how many values and letters a reading holds, each counted each time it is reached (what is shared counts as often as it is met; a slice's spare places count too). A statement '..UptoSaid' is the law's where the arguments, and the package variables that the reading takes, are together of bulk at most 1048576: NARROWER than '..Said'. Prove '..Said' where nothing that the law and all that it calls make is longer than what came in: it says more and counts as full. Else prove '..UptoSaid'. A law counts once. -/
mutual
def uptoBulk {H : Type} : DataW H → Nat
  | .lit (.string bytes) => bytes.length + 1
  | .lit _ => 1
  | .nil => 1
  | .ptr d => uptoBulk d + 1
  | .slice elems spare => uptoBulkAll elems + uptoBulkAll spare + 1
  | .agg parts => uptoBulkAll parts + 1
  | .iface _ d => uptoBulk d + 1
  | .map entries => uptoBulkEntries entries + 1
  | .held _ => 1
def uptoBulkAll {H : Type} : List (DataW H) → Nat
  | [] => 0
  | d :: r => uptoBulk d + uptoBulkAll r
def uptoBulkEntries {H : Type} : List (Lit × DataW H) → Nat
  | [] => 0
  | x :: r => uptoBulkEntry x + uptoBulkEntries r
def uptoBulkEntry {H : Type} : Lit × DataW H → Nat
  | (.string bytes, d) => bytes.length + uptoBulk d + 1
  | (_, d) => uptoBulk d + 1
 end
def uptoSmall : (H : Type) → List (DataW H) → Bool := fun _ ds => decide (uptoBulkAll ds ≤ 1048576)
def OpenSpec.upto (s : _root_.Go.ChangeSpec) : _root_.Go.OpenSpec := { _root_.Go.OpenSpec.ofChange s with cond := some uptoSmall }

/-- 'laws.FnExactFreeToVane', WHERE WHAT IT READS IS OF BULK AT MOST 1048576: true; the input reads as it did. -/
def fnExactFreeToVaneUptoRow : OpenClaim := { program := "ytdnjeodgdppjdaagreatdoor", sum := "84e3fde8cc03117e5fa54cf92c8a70c9561e6406d50d9704fd23d6dbcd9870f5", func := "loop.example/g00932/laws.FnExactFreeToVane", spec := "fnExactFreeToVane", unfollowed := true, recurses := true, named := ["loop.example/g00932/impl.quarter"], apart := false, laid := [("loop.example/g00932/impl.quarter", laid_loop_example_g00932_impl_quarter)], narrowed := true }
def FnExactFreeToVaneUptoSaid : Prop := fnExactFreeToVaneUptoRow.holds Tryz.pinned (OpenSpec.upto fnExactFreeToVaneSpec)

/-- 'laws.FnExactParkDirection', WHERE WHAT IT READS IS OF BULK AT MOST 1048576: true; the input reads as it did. -/
def fnExactParkDirectionUptoRow : OpenClaim := { program := "ytdnjeodgdppjdaagreatdoor", sum := "84e3fde8cc03117e5fa54cf92c8a70c9561e6406d50d9704fd23d6dbcd9870f5", func := "loop.example/g00932/laws.FnExactParkDirection", spec := "fnExactParkDirection", unfollowed := true, recurses := true, named := ["loop.example/g00932/impl.quarter"], apart := false, laid := [("loop.example/g00932/impl.quarter", laid_loop_example_g00932_impl_quarter)], narrowed := true }
def FnExactParkDirectionUptoSaid : Prop := fnExactParkDirectionUptoRow.holds Tryz.pinned (OpenSpec.upto fnExactParkDirectionSpec)

/-- 'laws.FnExactSiteConflicts', WHERE WHAT IT READS IS OF BULK AT MOST 1048576: true; the input reads as it did. -/
def fnExactSiteConflictsUptoRow : OpenClaim := { program := "ytdnjeodgdppjdaagreatdoor", sum := "84e3fde8cc03117e5fa54cf92c8a70c9561e6406d50d9704fd23d6dbcd9870f5", func := "loop.example/g00932/laws.FnExactSiteConflicts", spec := "fnExactSiteConflicts", unfollowed := true, recurses := true, named := ["loop.example/g00932/impl.quarter"], apart := false, laid := [("loop.example/g00932/impl.quarter", laid_loop_example_g00932_impl_quarter)], narrowed := true }
def FnExactSiteConflictsUptoSaid : Prop := fnExactSiteConflictsUptoRow.holds Tryz.pinned (OpenSpec.upto fnExactSiteConflictsSpec)

/-- 'laws.FnExactSafeWinds', WHERE WHAT IT READS IS OF BULK AT MOST 1048576: true; the input reads as it did. -/
def fnExactSafeWindsUptoRow : OpenClaim := { program := "ytdnjeodgdppjdaagreatdoor", sum := "84e3fde8cc03117e5fa54cf92c8a70c9561e6406d50d9704fd23d6dbcd9870f5", func := "loop.example/g00932/laws.FnExactSafeWinds", spec := "fnExactSafeWinds", unfollowed := true, recurses := true, named := ["loop.example/g00932/impl.quarter"], apart := false, laid := [("loop.example/g00932/impl.quarter", laid_loop_example_g00932_impl_quarter)], narrowed := true }
def FnExactSafeWindsUptoSaid : Prop := fnExactSafeWindsUptoRow.holds Tryz.pinned (OpenSpec.upto fnExactSafeWindsSpec)

/-- 'laws.FnExactVaneConflicts', WHERE WHAT IT READS IS OF BULK AT MOST 1048576: true; the input reads as it did. -/
def fnExactVaneConflictsUptoRow : OpenClaim := { program := "ytdnjeodgdppjdaagreatdoor", sum := "84e3fde8cc03117e5fa54cf92c8a70c9561e6406d50d9704fd23d6dbcd9870f5", func := "loop.example/g00932/laws.FnExactVaneConflicts", spec := "fnExactVaneConflicts", unfollowed := true, recurses := true, named := ["loop.example/g00932/impl.quarter"], apart := false, laid := [("loop.example/g00932/impl.quarter", laid_loop_example_g00932_impl_quarter)], narrowed := true }
def FnExactVaneConflictsUptoSaid : Prop := fnExactVaneConflictsUptoRow.holds Tryz.pinned (OpenSpec.upto fnExactVaneConflictsSpec)

/-- 'laws.FnExactVaneGroups', WHERE WHAT IT READS IS OF BULK AT MOST 1048576: true; the input reads as it did. -/
def fnExactVaneGroupsUptoRow : OpenClaim := { program := "ytdnjeodgdppjdaagreatdoor", sum := "84e3fde8cc03117e5fa54cf92c8a70c9561e6406d50d9704fd23d6dbcd9870f5", func := "loop.example/g00932/laws.FnExactVaneGroups", spec := "fnExactVaneGroups", unfollowed := true, recurses := true, named := ["loop.example/g00932/impl.quarter"], apart := false, laid := [("loop.example/g00932/impl.quarter", laid_loop_example_g00932_impl_quarter)], narrowed := true }
def FnExactVaneGroupsUptoSaid : Prop := fnExactVaneGroupsUptoRow.holds Tryz.pinned (OpenSpec.upto fnExactVaneGroupsSpec)

/-- 'laws.FnVaning', WHERE WHAT IT READS IS OF BULK AT MOST 1048576: true; the input reads as it did. -/
def fnVaningUptoRow : OpenClaim := { program := "ytdnjeodgdppjdaagreatdoor", sum := "84e3fde8cc03117e5fa54cf92c8a70c9561e6406d50d9704fd23d6dbcd9870f5", func := "loop.example/g00932/laws.FnVaning", spec := "fnVaning", unfollowed := true, recurses := true, named := ["loop.example/g00932/impl.quarter"], apart := false, laid := [("loop.example/g00932/impl.quarter", laid_loop_example_g00932_impl_quarter)], narrowed := true }
def FnVaningUptoSaid : Prop := fnVaningUptoRow.holds Tryz.pinned (OpenSpec.upto fnVaningSpec)

/-- 'laws.FnHindered', WHERE WHAT IT READS IS OF BULK AT MOST 1048576: true; the input reads as it did. -/
def fnHinderedUptoRow : OpenClaim := { program := "ytdnjeodgdppjdaagreatdoor", sum := "84e3fde8cc03117e5fa54cf92c8a70c9561e6406d50d9704fd23d6dbcd9870f5", func := "loop.example/g00932/laws.FnHindered", spec := "fnHindered", unfollowed := true, recurses := true, named := ["loop.example/g00932/impl.quarter"], apart := false, laid := [("loop.example/g00932/impl.quarter", laid_loop_example_g00932_impl_quarter)], narrowed := true }
def FnHinderedUptoSaid : Prop := fnHinderedUptoRow.holds Tryz.pinned (OpenSpec.upto fnHinderedSpec)

/-- 'laws.FnTimeTables', WHERE WHAT IT READS IS OF BULK AT MOST 1048576: true; the input reads as it did. -/
def fnTimeTablesUptoRow : OpenClaim := { program := "ytdnjeodgdppjdaagreatdoor", sum := "84e3fde8cc03117e5fa54cf92c8a70c9561e6406d50d9704fd23d6dbcd9870f5", func := "loop.example/g00932/laws.FnTimeTables", spec := "fnTimeTables", unfollowed := true, recurses := true, named := ["loop.example/g00932/impl.quarter", "internal/strconv.uint64pow10", "math/bits.deBruijn32tab", "math/bits.deBruijn64tab"], apart := false, laid := [("math/bits.deBruijn32tab", laid_math_bits_deBruijn32tab), ("math/bits.deBruijn64tab", laid_math_bits_deBruijn64tab), ("internal/strconv.uint64pow10", laid_internal_strconv_uint64pow10), ("loop.example/g00932/impl.quarter", laid_loop_example_g00932_impl_quarter)], narrowed := true }
def FnTimeTablesUptoSaid : Prop := fnTimeTablesUptoRow.holds Tryz.pinned (OpenSpec.upto fnTimeTablesSpec)

/-- 'laws.FnExactTimeTable', WHERE WHAT IT READS IS OF BULK AT MOST 1048576: true; the input reads as it did. -/
def fnExactTimeTableUptoRow : OpenClaim := { program := "ytdnjeodgdppjdaagreatdoor", sum := "84e3fde8cc03117e5fa54cf92c8a70c9561e6406d50d9704fd23d6dbcd9870f5", func := "loop.example/g00932/laws.FnExactTimeTable", spec := "fnExactTimeTable", unfollowed := true, recurses := true, named := ["loop.example/g00932/impl.quarter"], apart := false, laid := [("loop.example/g00932/impl.quarter", laid_loop_example_g00932_impl_quarter)], narrowed := true }
def FnExactTimeTableUptoSaid : Prop := fnExactTimeTableUptoRow.holds Tryz.pinned (OpenSpec.upto fnExactTimeTableSpec)

/-- 'laws.FnExactCriticalTime', WHERE WHAT IT READS IS OF BULK AT MOST 1048576: true; the input reads as it did. -/
def fnExactCriticalTimeUptoRow : OpenClaim := { program := "ytdnjeodgdppjdaagreatdoor", sum := "84e3fde8cc03117e5fa54cf92c8a70c9561e6406d50d9704fd23d6dbcd9870f5", func := "loop.example/g00932/laws.FnExactCriticalTime", spec := "fnExactCriticalTime", unfollowed := true, recurses := true, named := ["loop.example/g00932/impl.quarter"], apart := false, laid := [("loop.example/g00932/impl.quarter", laid_loop_example_g00932_impl_quarter)], narrowed := true }
def FnExactCriticalTimeUptoSaid : Prop := fnExactCriticalTimeUptoRow.holds Tryz.pinned (OpenSpec.upto fnExactCriticalTimeSpec)

/-- 'laws.FnExactWorkBound', WHERE WHAT IT READS IS OF BULK AT MOST 1048576: true; the input reads as it did. -/
def fnExactWorkBoundUptoRow : OpenClaim := { program := "ytdnjeodgdppjdaagreatdoor", sum := "84e3fde8cc03117e5fa54cf92c8a70c9561e6406d50d9704fd23d6dbcd9870f5", func := "loop.example/g00932/laws.FnExactWorkBound", spec := "fnExactWorkBound", unfollowed := true, recurses := true, named := ["loop.example/g00932/impl.quarter"], apart := false, laid := [("loop.example/g00932/impl.quarter", laid_loop_example_g00932_impl_quarter)], narrowed := true }
def FnExactWorkBoundUptoSaid : Prop := fnExactWorkBoundUptoRow.holds Tryz.pinned (OpenSpec.upto fnExactWorkBoundSpec)

end Rows
end Go.Proofs.YtdnjeodgdppjdaaGreatDoor
