/-
  DERIVED. GIVEN WITH THE SEED: THE CARDS: each row of YtdnjeodgdppjdaaGreatDoorRows.lean that lists a variable, with what it lists TIED to the program's text (the seventh form; the later family's looks); each row that meets fmt, with fmt's text TOLD by the authors' own Lean function (tested against real Go, not proved from fmt's source: count such statements apart). THE CARD IS WHAT COUNTS. Prove the row's statement (the work); the ties are given (YtdnjeodgdppjdaaGreatDoorTie.lean); close each card by the builder's one call (the guide's Derived/Test/ToyasCard.lean, 'card_holds'). Laid BY PROGRAM, IN A SANDBOX (cutbox-door.mjs). By AI agents, Wed Nov 11 2026. No macro, syntax, notation, axiom, sorry.
-/
import Derived.Test.YtdnjeodgdppjdaaGreatDoorRows
import GoSem.ClaimSeven
namespace Go.Proofs.YtdnjeodgdppjdaaGreatDoor
namespace Rows

/-- THE TIED CARD OF 'laws.FnExactFreeToVane'. -/
def fnExactFreeToVaneCard : Claim7 := { stood := { row := fnExactFreeToVaneRow, standIns := [], harness := (true, "9a9894d279aa1a953dfd904e7c982a0b7762fae6c65f737f15f06b9da76f2f9b"), looks := false }, kinds := [], alts := [], laidByText := true, laidKinds := [.data], laidTests := true, laidLooks := .later }
def FnExactFreeToVaneCardSaid : Prop := Claim7.holds Tryz.pinned (.plain (OpenSpec.ofChange fnExactFreeToVaneSpec)) fnExactFreeToVaneCard

/-- THE TIED CARD OF 'laws.FnExactParkDirection'. -/
def fnExactParkDirectionCard : Claim7 := { stood := { row := fnExactParkDirectionRow, standIns := [], harness := (true, "9a9894d279aa1a953dfd904e7c982a0b7762fae6c65f737f15f06b9da76f2f9b"), looks := false }, kinds := [], alts := [], laidByText := true, laidKinds := [.data], laidTests := true, laidLooks := .later }
def FnExactParkDirectionCardSaid : Prop := Claim7.holds Tryz.pinned (.plain (OpenSpec.ofChange fnExactParkDirectionSpec)) fnExactParkDirectionCard

/-- THE TIED CARD OF 'laws.FnExactSiteConflicts'. -/
def fnExactSiteConflictsCard : Claim7 := { stood := { row := fnExactSiteConflictsRow, standIns := [], harness := (true, "9a9894d279aa1a953dfd904e7c982a0b7762fae6c65f737f15f06b9da76f2f9b"), looks := false }, kinds := [], alts := [], laidByText := true, laidKinds := [.data], laidTests := true, laidLooks := .later }
def FnExactSiteConflictsCardSaid : Prop := Claim7.holds Tryz.pinned (.plain (OpenSpec.ofChange fnExactSiteConflictsSpec)) fnExactSiteConflictsCard

/-- THE TIED CARD OF 'laws.FnExactSafeWinds'. -/
def fnExactSafeWindsCard : Claim7 := { stood := { row := fnExactSafeWindsRow, standIns := [], harness := (true, "9a9894d279aa1a953dfd904e7c982a0b7762fae6c65f737f15f06b9da76f2f9b"), looks := false }, kinds := [], alts := [], laidByText := true, laidKinds := [.data], laidTests := true, laidLooks := .later }
def FnExactSafeWindsCardSaid : Prop := Claim7.holds Tryz.pinned (.plain (OpenSpec.ofChange fnExactSafeWindsSpec)) fnExactSafeWindsCard

/-- THE TIED CARD OF 'laws.FnExactVaneConflicts'. -/
def fnExactVaneConflictsCard : Claim7 := { stood := { row := fnExactVaneConflictsRow, standIns := [], harness := (true, "9a9894d279aa1a953dfd904e7c982a0b7762fae6c65f737f15f06b9da76f2f9b"), looks := false }, kinds := [], alts := [], laidByText := true, laidKinds := [.data], laidTests := true, laidLooks := .later }
def FnExactVaneConflictsCardSaid : Prop := Claim7.holds Tryz.pinned (.plain (OpenSpec.ofChange fnExactVaneConflictsSpec)) fnExactVaneConflictsCard

/-- THE TIED CARD OF 'laws.FnExactVaneGroups'. -/
def fnExactVaneGroupsCard : Claim7 := { stood := { row := fnExactVaneGroupsRow, standIns := [], harness := (true, "9a9894d279aa1a953dfd904e7c982a0b7762fae6c65f737f15f06b9da76f2f9b"), looks := false }, kinds := [], alts := [], laidByText := true, laidKinds := [.data], laidTests := true, laidLooks := .later }
def FnExactVaneGroupsCardSaid : Prop := Claim7.holds Tryz.pinned (.plain (OpenSpec.ofChange fnExactVaneGroupsSpec)) fnExactVaneGroupsCard

/-- THE TIED CARD OF 'laws.FnVaning'. -/
def fnVaningCard : Claim7 := { stood := { row := fnVaningRow, standIns := [], harness := (true, "9a9894d279aa1a953dfd904e7c982a0b7762fae6c65f737f15f06b9da76f2f9b"), looks := false }, kinds := [], alts := [], laidByText := true, laidKinds := [.data], laidTests := true, laidLooks := .later }
def FnVaningCardSaid : Prop := Claim7.holds Tryz.pinned (.plain (OpenSpec.ofChange fnVaningSpec)) fnVaningCard

/-- THE TIED CARD OF 'laws.FnHindered'. -/
def fnHinderedCard : Claim7 := { stood := { row := fnHinderedRow, standIns := [], harness := (true, "9a9894d279aa1a953dfd904e7c982a0b7762fae6c65f737f15f06b9da76f2f9b"), looks := false }, kinds := [], alts := [], laidByText := true, laidKinds := [.data], laidTests := true, laidLooks := .later }
def FnHinderedCardSaid : Prop := Claim7.holds Tryz.pinned (.plain (OpenSpec.ofChange fnHinderedSpec)) fnHinderedCard

/-- THE TIED CARD OF 'laws.FnTimeTables'. -/
def fnTimeTablesCard : Claim7 := { stood := { row := fnTimeTablesRow, standIns := [], harness := (true, "9a9894d279aa1a953dfd904e7c982a0b7762fae6c65f737f15f06b9da76f2f9b"), looks := false }, kinds := [], alts := [], laidByText := true, laidKinds := [.data, .data, .data, .data], laidTests := true, laidLooks := .later }
def FnTimeTablesCardSaid : Prop := Claim7.holds Tryz.pinned (.plain (OpenSpec.ofChange fnTimeTablesSpec)) fnTimeTablesCard

/-- THE TIED CARD OF 'laws.FnExactTimeTable'. -/
def fnExactTimeTableCard : Claim7 := { stood := { row := fnExactTimeTableRow, standIns := [], harness := (true, "9a9894d279aa1a953dfd904e7c982a0b7762fae6c65f737f15f06b9da76f2f9b"), looks := false }, kinds := [], alts := [], laidByText := true, laidKinds := [.data], laidTests := true, laidLooks := .later }
def FnExactTimeTableCardSaid : Prop := Claim7.holds Tryz.pinned (.plain (OpenSpec.ofChange fnExactTimeTableSpec)) fnExactTimeTableCard

/-- THE TIED CARD OF 'laws.FnExactCriticalTime'. -/
def fnExactCriticalTimeCard : Claim7 := { stood := { row := fnExactCriticalTimeRow, standIns := [], harness := (true, "9a9894d279aa1a953dfd904e7c982a0b7762fae6c65f737f15f06b9da76f2f9b"), looks := false }, kinds := [], alts := [], laidByText := true, laidKinds := [.data], laidTests := true, laidLooks := .later }
def FnExactCriticalTimeCardSaid : Prop := Claim7.holds Tryz.pinned (.plain (OpenSpec.ofChange fnExactCriticalTimeSpec)) fnExactCriticalTimeCard

/-- THE TIED CARD OF 'laws.FnExactWorkBound'. -/
def fnExactWorkBoundCard : Claim7 := { stood := { row := fnExactWorkBoundRow, standIns := [], harness := (true, "9a9894d279aa1a953dfd904e7c982a0b7762fae6c65f737f15f06b9da76f2f9b"), looks := false }, kinds := [], alts := [], laidByText := true, laidKinds := [.data], laidTests := true, laidLooks := .later }
def FnExactWorkBoundCardSaid : Prop := Claim7.holds Tryz.pinned (.plain (OpenSpec.ofChange fnExactWorkBoundSpec)) fnExactWorkBoundCard

/-- THE SECOND FORM's CARD OF 'laws.FnExactFreeToVane'. -/
def fnExactFreeToVaneUptoCard : Claim7 := { stood := { row := fnExactFreeToVaneUptoRow, standIns := [], harness := (true, "9a9894d279aa1a953dfd904e7c982a0b7762fae6c65f737f15f06b9da76f2f9b"), looks := false }, kinds := [], alts := [], laidByText := true, laidKinds := [.data], laidTests := true, laidLooks := .later }
def FnExactFreeToVaneUptoCardSaid : Prop := Claim7.holds Tryz.pinned (.plain (OpenSpec.upto fnExactFreeToVaneSpec)) fnExactFreeToVaneUptoCard

/-- THE SECOND FORM's CARD OF 'laws.FnExactParkDirection'. -/
def fnExactParkDirectionUptoCard : Claim7 := { stood := { row := fnExactParkDirectionUptoRow, standIns := [], harness := (true, "9a9894d279aa1a953dfd904e7c982a0b7762fae6c65f737f15f06b9da76f2f9b"), looks := false }, kinds := [], alts := [], laidByText := true, laidKinds := [.data], laidTests := true, laidLooks := .later }
def FnExactParkDirectionUptoCardSaid : Prop := Claim7.holds Tryz.pinned (.plain (OpenSpec.upto fnExactParkDirectionSpec)) fnExactParkDirectionUptoCard

/-- THE SECOND FORM's CARD OF 'laws.FnExactSiteConflicts'. -/
def fnExactSiteConflictsUptoCard : Claim7 := { stood := { row := fnExactSiteConflictsUptoRow, standIns := [], harness := (true, "9a9894d279aa1a953dfd904e7c982a0b7762fae6c65f737f15f06b9da76f2f9b"), looks := false }, kinds := [], alts := [], laidByText := true, laidKinds := [.data], laidTests := true, laidLooks := .later }
def FnExactSiteConflictsUptoCardSaid : Prop := Claim7.holds Tryz.pinned (.plain (OpenSpec.upto fnExactSiteConflictsSpec)) fnExactSiteConflictsUptoCard

/-- THE SECOND FORM's CARD OF 'laws.FnExactSafeWinds'. -/
def fnExactSafeWindsUptoCard : Claim7 := { stood := { row := fnExactSafeWindsUptoRow, standIns := [], harness := (true, "9a9894d279aa1a953dfd904e7c982a0b7762fae6c65f737f15f06b9da76f2f9b"), looks := false }, kinds := [], alts := [], laidByText := true, laidKinds := [.data], laidTests := true, laidLooks := .later }
def FnExactSafeWindsUptoCardSaid : Prop := Claim7.holds Tryz.pinned (.plain (OpenSpec.upto fnExactSafeWindsSpec)) fnExactSafeWindsUptoCard

/-- THE SECOND FORM's CARD OF 'laws.FnExactVaneConflicts'. -/
def fnExactVaneConflictsUptoCard : Claim7 := { stood := { row := fnExactVaneConflictsUptoRow, standIns := [], harness := (true, "9a9894d279aa1a953dfd904e7c982a0b7762fae6c65f737f15f06b9da76f2f9b"), looks := false }, kinds := [], alts := [], laidByText := true, laidKinds := [.data], laidTests := true, laidLooks := .later }
def FnExactVaneConflictsUptoCardSaid : Prop := Claim7.holds Tryz.pinned (.plain (OpenSpec.upto fnExactVaneConflictsSpec)) fnExactVaneConflictsUptoCard

/-- THE SECOND FORM's CARD OF 'laws.FnExactVaneGroups'. -/
def fnExactVaneGroupsUptoCard : Claim7 := { stood := { row := fnExactVaneGroupsUptoRow, standIns := [], harness := (true, "9a9894d279aa1a953dfd904e7c982a0b7762fae6c65f737f15f06b9da76f2f9b"), looks := false }, kinds := [], alts := [], laidByText := true, laidKinds := [.data], laidTests := true, laidLooks := .later }
def FnExactVaneGroupsUptoCardSaid : Prop := Claim7.holds Tryz.pinned (.plain (OpenSpec.upto fnExactVaneGroupsSpec)) fnExactVaneGroupsUptoCard

/-- THE SECOND FORM's CARD OF 'laws.FnVaning'. -/
def fnVaningUptoCard : Claim7 := { stood := { row := fnVaningUptoRow, standIns := [], harness := (true, "9a9894d279aa1a953dfd904e7c982a0b7762fae6c65f737f15f06b9da76f2f9b"), looks := false }, kinds := [], alts := [], laidByText := true, laidKinds := [.data], laidTests := true, laidLooks := .later }
def FnVaningUptoCardSaid : Prop := Claim7.holds Tryz.pinned (.plain (OpenSpec.upto fnVaningSpec)) fnVaningUptoCard

/-- THE SECOND FORM's CARD OF 'laws.FnHindered'. -/
def fnHinderedUptoCard : Claim7 := { stood := { row := fnHinderedUptoRow, standIns := [], harness := (true, "9a9894d279aa1a953dfd904e7c982a0b7762fae6c65f737f15f06b9da76f2f9b"), looks := false }, kinds := [], alts := [], laidByText := true, laidKinds := [.data], laidTests := true, laidLooks := .later }
def FnHinderedUptoCardSaid : Prop := Claim7.holds Tryz.pinned (.plain (OpenSpec.upto fnHinderedSpec)) fnHinderedUptoCard

/-- THE SECOND FORM's CARD OF 'laws.FnTimeTables'. -/
def fnTimeTablesUptoCard : Claim7 := { stood := { row := fnTimeTablesUptoRow, standIns := [], harness := (true, "9a9894d279aa1a953dfd904e7c982a0b7762fae6c65f737f15f06b9da76f2f9b"), looks := false }, kinds := [], alts := [], laidByText := true, laidKinds := [.data, .data, .data, .data], laidTests := true, laidLooks := .later }
def FnTimeTablesUptoCardSaid : Prop := Claim7.holds Tryz.pinned (.plain (OpenSpec.upto fnTimeTablesSpec)) fnTimeTablesUptoCard

/-- THE SECOND FORM's CARD OF 'laws.FnExactTimeTable'. -/
def fnExactTimeTableUptoCard : Claim7 := { stood := { row := fnExactTimeTableUptoRow, standIns := [], harness := (true, "9a9894d279aa1a953dfd904e7c982a0b7762fae6c65f737f15f06b9da76f2f9b"), looks := false }, kinds := [], alts := [], laidByText := true, laidKinds := [.data], laidTests := true, laidLooks := .later }
def FnExactTimeTableUptoCardSaid : Prop := Claim7.holds Tryz.pinned (.plain (OpenSpec.upto fnExactTimeTableSpec)) fnExactTimeTableUptoCard

/-- THE SECOND FORM's CARD OF 'laws.FnExactCriticalTime'. -/
def fnExactCriticalTimeUptoCard : Claim7 := { stood := { row := fnExactCriticalTimeUptoRow, standIns := [], harness := (true, "9a9894d279aa1a953dfd904e7c982a0b7762fae6c65f737f15f06b9da76f2f9b"), looks := false }, kinds := [], alts := [], laidByText := true, laidKinds := [.data], laidTests := true, laidLooks := .later }
def FnExactCriticalTimeUptoCardSaid : Prop := Claim7.holds Tryz.pinned (.plain (OpenSpec.upto fnExactCriticalTimeSpec)) fnExactCriticalTimeUptoCard

/-- THE SECOND FORM's CARD OF 'laws.FnExactWorkBound'. -/
def fnExactWorkBoundUptoCard : Claim7 := { stood := { row := fnExactWorkBoundUptoRow, standIns := [], harness := (true, "9a9894d279aa1a953dfd904e7c982a0b7762fae6c65f737f15f06b9da76f2f9b"), looks := false }, kinds := [], alts := [], laidByText := true, laidKinds := [.data], laidTests := true, laidLooks := .later }
def FnExactWorkBoundUptoCardSaid : Prop := Claim7.holds Tryz.pinned (.plain (OpenSpec.upto fnExactWorkBoundSpec)) fnExactWorkBoundUptoCard
end Rows
end Go.Proofs.YtdnjeodgdppjdaaGreatDoor
