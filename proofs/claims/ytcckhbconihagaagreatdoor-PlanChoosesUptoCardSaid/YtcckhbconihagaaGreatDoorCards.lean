/-
  DERIVED. GIVEN WITH THE SEED: THE CARDS: each row of YtcckhbconihagaaGreatDoorRows.lean that lists a variable, with what it lists TIED to the program's text (the seventh form; the later family's looks); each row that meets fmt, with fmt's text TOLD by the authors' own Lean function (tested against real Go, not proved from fmt's source: count such statements apart). THE CARD IS WHAT COUNTS. Prove the row's statement (the work); the ties are given (YtcckhbconihagaaGreatDoorTie.lean); close each card by the builder's one call (the guide's Derived/Test/ToyasCard.lean, 'card_holds'). Laid BY PROGRAM, IN A SANDBOX (cutbox-door.mjs). By AI agents, Wed Nov 11 2026. No macro, syntax, notation, axiom, sorry.
-/
import Derived.Test.YtcckhbconihagaaGreatDoorRows
import GoSem.ClaimSeven
namespace Go.Proofs.YtcckhbconihagaaGreatDoor
namespace Rows

/-- THE TIED CARD OF 'bureaulaw24.PlanMay'. -/
def planMayCard : Claim7 := { stood := { row := planMayRow, standIns := [], harness := (true, "a6e9a4a9d4f7da49124683bf07bd16e0367eb689938a5ed74de7251a8b7ce9db"), looks := false }, kinds := [], alts := [], laidByText := true, laidKinds := [.data, .pinned], laidTests := true, laidLooks := .later }
def PlanMayCardSaid : Prop := Claim7.holds Tryz.pinned (.plain (OpenSpec.ofChange planMaySpec)) planMayCard

/-- THE TIED CARD OF 'bureaulaw24.PlanReach'. -/
def planReachCard : Claim7 := { stood := { row := planReachRow, standIns := [], harness := (true, "a6e9a4a9d4f7da49124683bf07bd16e0367eb689938a5ed74de7251a8b7ce9db"), looks := false }, kinds := [], alts := [], laidByText := true, laidKinds := [.data, .pinned], laidTests := true, laidLooks := .later }
def PlanReachCardSaid : Prop := Claim7.holds Tryz.pinned (.plain (OpenSpec.ofChange planReachSpec)) planReachCard

/-- THE TIED CARD OF 'bureaulaw24.PlanPlain'. -/
def planPlainCard : Claim7 := { stood := { row := planPlainRow, standIns := [], harness := (true, "a6e9a4a9d4f7da49124683bf07bd16e0367eb689938a5ed74de7251a8b7ce9db"), looks := false }, kinds := [], alts := [], laidByText := true, laidKinds := [.data, .pinned], laidTests := true, laidLooks := .later }
def PlanPlainCardSaid : Prop := Claim7.holds Tryz.pinned (.plain (OpenSpec.ofChange planPlainSpec)) planPlainCard

/-- THE TIED CARD OF 'bureaulaw24.PlanPicks'. -/
def planPicksCard : Claim7 := { stood := { row := planPicksRow, standIns := [], harness := (true, "a6e9a4a9d4f7da49124683bf07bd16e0367eb689938a5ed74de7251a8b7ce9db"), looks := false }, kinds := [], alts := [], laidByText := true, laidKinds := [.data, .pinned], laidTests := true, laidLooks := .later }
def PlanPicksCardSaid : Prop := Claim7.holds Tryz.pinned (.plain (OpenSpec.ofChange planPicksSpec)) planPicksCard

/-- THE TIED CARD OF 'bureaulaw24.PlanChooses'. -/
def planChoosesCard : Claim7 := { stood := { row := planChoosesRow, standIns := [], harness := (true, "a6e9a4a9d4f7da49124683bf07bd16e0367eb689938a5ed74de7251a8b7ce9db"), looks := false }, kinds := [], alts := [], laidByText := true, laidKinds := [.data, .pinned], laidTests := true, laidLooks := .later }
def PlanChoosesCardSaid : Prop := Claim7.holds Tryz.pinned (.plain (OpenSpec.ofChange planChoosesSpec)) planChoosesCard

/-- THE SECOND FORM's CARD OF 'bureaulaw24.PlanMay'. -/
def planMayUptoCard : Claim7 := { stood := { row := planMayUptoRow, standIns := [], harness := (true, "a6e9a4a9d4f7da49124683bf07bd16e0367eb689938a5ed74de7251a8b7ce9db"), looks := false }, kinds := [], alts := [], laidByText := true, laidKinds := [.data, .pinned], laidTests := true, laidLooks := .later }
def PlanMayUptoCardSaid : Prop := Claim7.holds Tryz.pinned (.plain (OpenSpec.upto planMaySpec)) planMayUptoCard

/-- THE SECOND FORM's CARD OF 'bureaulaw24.PlanReach'. -/
def planReachUptoCard : Claim7 := { stood := { row := planReachUptoRow, standIns := [], harness := (true, "a6e9a4a9d4f7da49124683bf07bd16e0367eb689938a5ed74de7251a8b7ce9db"), looks := false }, kinds := [], alts := [], laidByText := true, laidKinds := [.data, .pinned], laidTests := true, laidLooks := .later }
def PlanReachUptoCardSaid : Prop := Claim7.holds Tryz.pinned (.plain (OpenSpec.upto planReachSpec)) planReachUptoCard

/-- THE SECOND FORM's CARD OF 'bureaulaw24.PlanPlain'. -/
def planPlainUptoCard : Claim7 := { stood := { row := planPlainUptoRow, standIns := [], harness := (true, "a6e9a4a9d4f7da49124683bf07bd16e0367eb689938a5ed74de7251a8b7ce9db"), looks := false }, kinds := [], alts := [], laidByText := true, laidKinds := [.data, .pinned], laidTests := true, laidLooks := .later }
def PlanPlainUptoCardSaid : Prop := Claim7.holds Tryz.pinned (.plain (OpenSpec.upto planPlainSpec)) planPlainUptoCard

/-- THE SECOND FORM's CARD OF 'bureaulaw24.PlanPicks'. -/
def planPicksUptoCard : Claim7 := { stood := { row := planPicksUptoRow, standIns := [], harness := (true, "a6e9a4a9d4f7da49124683bf07bd16e0367eb689938a5ed74de7251a8b7ce9db"), looks := false }, kinds := [], alts := [], laidByText := true, laidKinds := [.data, .pinned], laidTests := true, laidLooks := .later }
def PlanPicksUptoCardSaid : Prop := Claim7.holds Tryz.pinned (.plain (OpenSpec.upto planPicksSpec)) planPicksUptoCard

/-- THE SECOND FORM's CARD OF 'bureaulaw24.PlanChooses'. -/
def planChoosesUptoCard : Claim7 := { stood := { row := planChoosesUptoRow, standIns := [], harness := (true, "a6e9a4a9d4f7da49124683bf07bd16e0367eb689938a5ed74de7251a8b7ce9db"), looks := false }, kinds := [], alts := [], laidByText := true, laidKinds := [.data, .pinned], laidTests := true, laidLooks := .later }
def PlanChoosesUptoCardSaid : Prop := Claim7.holds Tryz.pinned (.plain (OpenSpec.upto planChoosesSpec)) planChoosesUptoCard
end Rows
end Go.Proofs.YtcckhbconihagaaGreatDoor
