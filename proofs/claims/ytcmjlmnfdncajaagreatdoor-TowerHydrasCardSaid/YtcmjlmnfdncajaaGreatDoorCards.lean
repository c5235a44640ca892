/-
  DERIVED. GIVEN WITH THE SEED: THE CARDS: each row of YtcmjlmnfdncajaaGreatDoorRows.lean that lists a variable, with what it lists TIED to the program's text (the seventh form; the later family's looks); each row that meets fmt, with fmt's text TOLD by the authors' own Lean function (tested against real Go, not proved from fmt's source: count such statements apart). THE CARD IS WHAT COUNTS. Prove the row's statement (the work); the ties are given (YtcmjlmnfdncajaaGreatDoorTie.lean); close each card by the builder's one call (the guide's Derived/Test/ToyasCard.lean, 'card_holds'). Laid BY PROGRAM, IN A SANDBOX (cutbox-door.mjs). By AI agents, Wed Nov 11 2026. No macro, syntax, notation, axiom, sorry.
-/
import Derived.Test.YtcmjlmnfdncajaaGreatDoorRows
import GoSem.ClaimSeven
namespace Go.Proofs.YtcmjlmnfdncajaaGreatDoor
namespace Rows

/-- THE TIED CARD OF 'galloonlaw05.TowerOwn'. -/
def towerOwnCard : Claim7 := { stood := { row := towerOwnRow, standIns := [], harness := (true, "c680fd532e851bb54ee1593f7170d7b9e205688c678043e51d7b0651b2f20aca"), looks := true }, kinds := [], alts := [], laidByText := true, laidKinds := [.data, .data, .data, .data, .sentinel, .sentinel, .pinned], laidTests := true, laidLooks := .later }
def TowerOwnCardSaid : Prop := Claim7.holds Tryz.pinned (.plain (OpenSpec.ofChange towerOwnSpec)) towerOwnCard

/-- THE TIED CARD OF 'galloonlaw05.TowerOrdered'. -/
def towerOrderedCard : Claim7 := { stood := { row := towerOrderedRow, standIns := [], harness := (true, "c680fd532e851bb54ee1593f7170d7b9e205688c678043e51d7b0651b2f20aca"), looks := true }, kinds := [], alts := [], laidByText := true, laidKinds := [.data, .data, .data, .data, .sentinel, .sentinel, .pinned], laidTests := true, laidLooks := .later }
def TowerOrderedCardSaid : Prop := Claim7.holds Tryz.pinned (.plain (OpenSpec.ofChange towerOrderedSpec)) towerOrderedCard

/-- THE TIED CARD OF 'galloonlaw05.TowerSteps'. -/
def towerStepsCard : Claim7 := { stood := { row := towerStepsRow, standIns := [], harness := (true, "c680fd532e851bb54ee1593f7170d7b9e205688c678043e51d7b0651b2f20aca"), looks := true }, kinds := [], alts := [], laidByText := true, laidKinds := [.data, .data, .data, .data, .sentinel, .sentinel, .pinned], laidTests := true, laidLooks := .later }
def TowerStepsCardSaid : Prop := Claim7.holds Tryz.pinned (.plain (OpenSpec.ofChange towerStepsSpec)) towerStepsCard

/-- THE TIED CARD OF 'galloonlaw05.TowerProducts'. -/
def towerProductsCard : Claim7 := { stood := { row := towerProductsRow, standIns := [], harness := (true, "c680fd532e851bb54ee1593f7170d7b9e205688c678043e51d7b0651b2f20aca"), looks := true }, kinds := [], alts := [], laidByText := true, laidKinds := [.data, .data, .data, .data, .sentinel, .sentinel, .pinned], laidTests := true, laidLooks := .later }
def TowerProductsCardSaid : Prop := Claim7.holds Tryz.pinned (.plain (OpenSpec.ofChange towerProductsSpec)) towerProductsCard

/-- THE TIED CARD OF 'galloonlaw05.TowerFalls'. -/
def towerFallsCard : Claim7 := { stood := { row := towerFallsRow, standIns := [], harness := (true, "c680fd532e851bb54ee1593f7170d7b9e205688c678043e51d7b0651b2f20aca"), looks := true }, kinds := [], alts := [], laidByText := true, laidKinds := [.data, .data, .data, .data, .sentinel, .sentinel, .pinned], laidTests := true, laidLooks := .later }
def TowerFallsCardSaid : Prop := Claim7.holds Tryz.pinned (.plain (OpenSpec.ofChange towerFallsSpec)) towerFallsCard

/-- THE TIED CARD OF 'galloonlaw05.TowerBumps'. -/
def towerBumpsCard : Claim7 := { stood := { row := towerBumpsRow, standIns := [], harness := (true, "c680fd532e851bb54ee1593f7170d7b9e205688c678043e51d7b0651b2f20aca"), looks := true }, kinds := [], alts := [], laidByText := true, laidKinds := [.data, .data, .data, .data, .sentinel, .sentinel, .pinned], laidTests := true, laidLooks := .later }
def TowerBumpsCardSaid : Prop := Claim7.holds Tryz.pinned (.plain (OpenSpec.ofChange towerBumpsSpec)) towerBumpsCard

/-- THE TIED CARD OF 'galloonlaw05.TowerGoodstein'. -/
def towerGoodsteinCard : Claim7 := { stood := { row := towerGoodsteinRow, standIns := [], harness := (true, "c680fd532e851bb54ee1593f7170d7b9e205688c678043e51d7b0651b2f20aca"), looks := true }, kinds := [], alts := [], laidByText := true, laidKinds := [.data, .data, .data, .data, .sentinel, .sentinel, .pinned], laidTests := true, laidLooks := .later }
def TowerGoodsteinCardSaid : Prop := Claim7.holds Tryz.pinned (.plain (OpenSpec.ofChange towerGoodsteinSpec)) towerGoodsteinCard

/-- THE TIED CARD OF 'galloonlaw05.TowerHydras'. -/
def towerHydrasCard : Claim7 := { stood := { row := towerHydrasRow, standIns := [], harness := (true, "c680fd532e851bb54ee1593f7170d7b9e205688c678043e51d7b0651b2f20aca"), looks := true }, kinds := [], alts := [], laidByText := true, laidKinds := [.data, .data, .data, .data, .sentinel, .sentinel, .pinned], laidTests := true, laidLooks := .later }
def TowerHydrasCardSaid : Prop := Claim7.holds Tryz.pinned (.plain (OpenSpec.ofChange towerHydrasSpec)) towerHydrasCard

/-- THE TIED CARD OF 'galloonlaw05.TowerGrows'. -/
def towerGrowsCard : Claim7 := { stood := { row := towerGrowsRow, standIns := [], harness := (true, "c680fd532e851bb54ee1593f7170d7b9e205688c678043e51d7b0651b2f20aca"), looks := true }, kinds := [], alts := [], laidByText := true, laidKinds := [.data, .data, .data, .data, .sentinel, .sentinel, .pinned], laidTests := true, laidLooks := .later }
def TowerGrowsCardSaid : Prop := Claim7.holds Tryz.pinned (.plain (OpenSpec.ofChange towerGrowsSpec)) towerGrowsCard

/-- THE TIED CARD OF 'galloonlaw05.TowerChopped'. -/
def towerChoppedCard : Claim7 := { stood := { row := towerChoppedRow, standIns := [], harness := (true, "c680fd532e851bb54ee1593f7170d7b9e205688c678043e51d7b0651b2f20aca"), looks := true }, kinds := [], alts := [], laidByText := true, laidKinds := [.data, .data, .data, .data, .sentinel, .sentinel, .pinned], laidTests := true, laidLooks := .later }
def TowerChoppedCardSaid : Prop := Claim7.holds Tryz.pinned (.plain (OpenSpec.ofChange towerChoppedSpec)) towerChoppedCard

/-- THE TIED CARD OF 'galloonlaw05.TowerSums'. -/
def towerSumsCard : Claim7 := { stood := { row := towerSumsRow, standIns := [], harness := (true, "c680fd532e851bb54ee1593f7170d7b9e205688c678043e51d7b0651b2f20aca"), looks := true }, kinds := [], alts := [], laidByText := true, laidKinds := [.data, .data, .data, .data, .sentinel, .sentinel, .pinned], laidTests := true, laidLooks := .later }
def TowerSumsCardSaid : Prop := Claim7.holds Tryz.pinned (.plain (OpenSpec.ofChange towerSumsSpec)) towerSumsCard

/-- THE TIED CARD OF 'galloonlaw05.TowerFinite'. -/
def towerFiniteCard : Claim7 := { stood := { row := towerFiniteRow, standIns := [], harness := (true, "c680fd532e851bb54ee1593f7170d7b9e205688c678043e51d7b0651b2f20aca"), looks := true }, kinds := [], alts := [], laidByText := true, laidKinds := [.data, .data, .data, .data, .sentinel, .sentinel, .pinned], laidTests := true, laidLooks := .later }
def TowerFiniteCardSaid : Prop := Claim7.holds Tryz.pinned (.plain (OpenSpec.ofChange towerFiniteSpec)) towerFiniteCard

/-- THE SECOND FORM's CARD OF 'galloonlaw05.TowerOwn'. -/
def towerOwnUptoCard : Claim7 := { stood := { row := towerOwnUptoRow, standIns := [], harness := (true, "c680fd532e851bb54ee1593f7170d7b9e205688c678043e51d7b0651b2f20aca"), looks := true }, kinds := [], alts := [], laidByText := true, laidKinds := [.data, .data, .data, .data, .sentinel, .sentinel, .pinned], laidTests := true, laidLooks := .later }
def TowerOwnUptoCardSaid : Prop := Claim7.holds Tryz.pinned (.plain (OpenSpec.upto towerOwnSpec)) towerOwnUptoCard

/-- THE SECOND FORM's CARD OF 'galloonlaw05.TowerOrdered'. -/
def towerOrderedUptoCard : Claim7 := { stood := { row := towerOrderedUptoRow, standIns := [], harness := (true, "c680fd532e851bb54ee1593f7170d7b9e205688c678043e51d7b0651b2f20aca"), looks := true }, kinds := [], alts := [], laidByText := true, laidKinds := [.data, .data, .data, .data, .sentinel, .sentinel, .pinned], laidTests := true, laidLooks := .later }
def TowerOrderedUptoCardSaid : Prop := Claim7.holds Tryz.pinned (.plain (OpenSpec.upto towerOrderedSpec)) towerOrderedUptoCard

/-- THE SECOND FORM's CARD OF 'galloonlaw05.TowerSteps'. -/
def towerStepsUptoCard : Claim7 := { stood := { row := towerStepsUptoRow, standIns := [], harness := (true, "c680fd532e851bb54ee1593f7170d7b9e205688c678043e51d7b0651b2f20aca"), looks := true }, kinds := [], alts := [], laidByText := true, laidKinds := [.data, .data, .data, .data, .sentinel, .sentinel, .pinned], laidTests := true, laidLooks := .later }
def TowerStepsUptoCardSaid : Prop := Claim7.holds Tryz.pinned (.plain (OpenSpec.upto towerStepsSpec)) towerStepsUptoCard

/-- THE SECOND FORM's CARD OF 'galloonlaw05.TowerProducts'. -/
def towerProductsUptoCard : Claim7 := { stood := { row := towerProductsUptoRow, standIns := [], harness := (true, "c680fd532e851bb54ee1593f7170d7b9e205688c678043e51d7b0651b2f20aca"), looks := true }, kinds := [], alts := [], laidByText := true, laidKinds := [.data, .data, .data, .data, .sentinel, .sentinel, .pinned], laidTests := true, laidLooks := .later }
def TowerProductsUptoCardSaid : Prop := Claim7.holds Tryz.pinned (.plain (OpenSpec.upto towerProductsSpec)) towerProductsUptoCard

/-- THE SECOND FORM's CARD OF 'galloonlaw05.TowerFalls'. -/
def towerFallsUptoCard : Claim7 := { stood := { row := towerFallsUptoRow, standIns := [], harness := (true, "c680fd532e851bb54ee1593f7170d7b9e205688c678043e51d7b0651b2f20aca"), looks := true }, kinds := [], alts := [], laidByText := true, laidKinds := [.data, .data, .data, .data, .sentinel, .sentinel, .pinned], laidTests := true, laidLooks := .later }
def TowerFallsUptoCardSaid : Prop := Claim7.holds Tryz.pinned (.plain (OpenSpec.upto towerFallsSpec)) towerFallsUptoCard

/-- THE SECOND FORM's CARD OF 'galloonlaw05.TowerBumps'. -/
def towerBumpsUptoCard : Claim7 := { stood := { row := towerBumpsUptoRow, standIns := [], harness := (true, "c680fd532e851bb54ee1593f7170d7b9e205688c678043e51d7b0651b2f20aca"), looks := true }, kinds := [], alts := [], laidByText := true, laidKinds := [.data, .data, .data, .data, .sentinel, .sentinel, .pinned], laidTests := true, laidLooks := .later }
def TowerBumpsUptoCardSaid : Prop := Claim7.holds Tryz.pinned (.plain (OpenSpec.upto towerBumpsSpec)) towerBumpsUptoCard

/-- THE SECOND FORM's CARD OF 'galloonlaw05.TowerGoodstein'. -/
def towerGoodsteinUptoCard : Claim7 := { stood := { row := towerGoodsteinUptoRow, standIns := [], harness := (true, "c680fd532e851bb54ee1593f7170d7b9e205688c678043e51d7b0651b2f20aca"), looks := true }, kinds := [], alts := [], laidByText := true, laidKinds := [.data, .data, .data, .data, .sentinel, .sentinel, .pinned], laidTests := true, laidLooks := .later }
def TowerGoodsteinUptoCardSaid : Prop := Claim7.holds Tryz.pinned (.plain (OpenSpec.upto towerGoodsteinSpec)) towerGoodsteinUptoCard

/-- THE SECOND FORM's CARD OF 'galloonlaw05.TowerHydras'. -/
def towerHydrasUptoCard : Claim7 := { stood := { row := towerHydrasUptoRow, standIns := [], harness := (true, "c680fd532e851bb54ee1593f7170d7b9e205688c678043e51d7b0651b2f20aca"), looks := true }, kinds := [], alts := [], laidByText := true, laidKinds := [.data, .data, .data, .data, .sentinel, .sentinel, .pinned], laidTests := true, laidLooks := .later }
def TowerHydrasUptoCardSaid : Prop := Claim7.holds Tryz.pinned (.plain (OpenSpec.upto towerHydrasSpec)) towerHydrasUptoCard

/-- THE SECOND FORM's CARD OF 'galloonlaw05.TowerGrows'. -/
def towerGrowsUptoCard : Claim7 := { stood := { row := towerGrowsUptoRow, standIns := [], harness := (true, "c680fd532e851bb54ee1593f7170d7b9e205688c678043e51d7b0651b2f20aca"), looks := true }, kinds := [], alts := [], laidByText := true, laidKinds := [.data, .data, .data, .data, .sentinel, .sentinel, .pinned], laidTests := true, laidLooks := .later }
def TowerGrowsUptoCardSaid : Prop := Claim7.holds Tryz.pinned (.plain (OpenSpec.upto towerGrowsSpec)) towerGrowsUptoCard

/-- THE SECOND FORM's CARD OF 'galloonlaw05.TowerChopped'. -/
def towerChoppedUptoCard : Claim7 := { stood := { row := towerChoppedUptoRow, standIns := [], harness := (true, "c680fd532e851bb54ee1593f7170d7b9e205688c678043e51d7b0651b2f20aca"), looks := true }, kinds := [], alts := [], laidByText := true, laidKinds := [.data, .data, .data, .data, .sentinel, .sentinel, .pinned], laidTests := true, laidLooks := .later }
def TowerChoppedUptoCardSaid : Prop := Claim7.holds Tryz.pinned (.plain (OpenSpec.upto towerChoppedSpec)) towerChoppedUptoCard

/-- THE SECOND FORM's CARD OF 'galloonlaw05.TowerSums'. -/
def towerSumsUptoCard : Claim7 := { stood := { row := towerSumsUptoRow, standIns := [], harness := (true, "c680fd532e851bb54ee1593f7170d7b9e205688c678043e51d7b0651b2f20aca"), looks := true }, kinds := [], alts := [], laidByText := true, laidKinds := [.data, .data, .data, .data, .sentinel, .sentinel, .pinned], laidTests := true, laidLooks := .later }
def TowerSumsUptoCardSaid : Prop := Claim7.holds Tryz.pinned (.plain (OpenSpec.upto towerSumsSpec)) towerSumsUptoCard

/-- THE SECOND FORM's CARD OF 'galloonlaw05.TowerFinite'. -/
def towerFiniteUptoCard : Claim7 := { stood := { row := towerFiniteUptoRow, standIns := [], harness := (true, "c680fd532e851bb54ee1593f7170d7b9e205688c678043e51d7b0651b2f20aca"), looks := true }, kinds := [], alts := [], laidByText := true, laidKinds := [.data, .data, .data, .data, .sentinel, .sentinel, .pinned], laidTests := true, laidLooks := .later }
def TowerFiniteUptoCardSaid : Prop := Claim7.holds Tryz.pinned (.plain (OpenSpec.upto towerFiniteSpec)) towerFiniteUptoCard
end Rows
end Go.Proofs.YtcmjlmnfdncajaaGreatDoor
