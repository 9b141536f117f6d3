/-
  DERIVED. GIVEN WITH THE SEED: THE CARDS: each row of YtalainpmlonahaaDoorRows.lean that lists a variable, with what it lists TIED to the program's text (the seventh form; the later family's looks); each row that meets fmt, with fmt's text TOLD by the authors' own Lean function (tested against real Go, not proved from fmt's source: count such statements apart). THE CARD IS WHAT COUNTS. Prove the row's statement (the work); the ties are given (YtalainpmlonahaaDoorTie.lean); close each card by the builder's one call (the guide's Derived/Test/ToyasCard.lean, 'card_holds'). Laid BY PROGRAM, IN A SANDBOX (cutbox-door.mjs). By AI agents, Wed Nov 11 2026. No macro, syntax, notation, axiom, sorry.
-/
import Derived.Test.YtalainpmlonahaaDoorRows
import GoSem.ClaimSeven
namespace Go.Proofs.YtalainpmlonahaaDoor
namespace Rows

/-- THE TIED CARD OF 'moneyerlaw26.RuleWorth'. -/
def ruleWorthCard : Claim7 := { stood := { row := ruleWorthRow, standIns := [], harness := (true, "0c6d4264e0ed8acc40cc4496f01ec287ee8a5d50ec8e4f070eefe262ad2cad52"), looks := true }, kinds := [], alts := [], laidByText := true, laidKinds := [.handle, .data], laidTests := true, laidLooks := .later }
def RuleWorthCardSaid : Prop := Claim7.holds Tryd.pinned (.plain (OpenSpec.ofChange ruleWorthSpec)) ruleWorthCard

/-- THE TIED CARD OF 'moneyerlaw10.BlockGets'. -/
def blockGetsCard : Claim7 := { stood := { row := blockGetsRow, standIns := [], harness := (true, "0c6d4264e0ed8acc40cc4496f01ec287ee8a5d50ec8e4f070eefe262ad2cad52"), looks := true }, kinds := [], alts := [], laidByText := true, laidKinds := [.handle, .data], laidTests := true, laidLooks := .later }
def BlockGetsCardSaid : Prop := Claim7.holds Tryd.pinned (.plain (OpenSpec.ofChange blockGetsSpec)) blockGetsCard

/-- THE TIED CARD OF 'moneyerlaw10.BlockSealed'. -/
def blockSealedCard : Claim7 := { stood := { row := blockSealedRow, standIns := [], harness := (true, "0c6d4264e0ed8acc40cc4496f01ec287ee8a5d50ec8e4f070eefe262ad2cad52"), looks := true }, kinds := [], alts := [], laidByText := true, laidKinds := [.handle, .data], laidTests := true, laidLooks := .later }
def BlockSealedCardSaid : Prop := Claim7.holds Tryd.pinned (.plain (OpenSpec.ofChange blockSealedSpec)) blockSealedCard

/-- THE TIED CARD OF 'moneyerlaw10.BlockBack'. -/
def blockBackCard : Claim7 := { stood := { row := blockBackRow, standIns := [], harness := (true, "0c6d4264e0ed8acc40cc4496f01ec287ee8a5d50ec8e4f070eefe262ad2cad52"), looks := true }, kinds := [], alts := [], laidByText := true, laidKinds := [.handle, .data], laidTests := true, laidLooks := .later }
def BlockBackCardSaid : Prop := Claim7.holds Tryd.pinned (.plain (OpenSpec.ofChange blockBackSpec)) blockBackCard

/-- THE SECOND FORM's CARD OF 'moneyerlaw26.RuleWorth'. -/
def ruleWorthUptoCard : Claim7 := { stood := { row := ruleWorthUptoRow, standIns := [], harness := (true, "0c6d4264e0ed8acc40cc4496f01ec287ee8a5d50ec8e4f070eefe262ad2cad52"), looks := true }, kinds := [], alts := [], laidByText := true, laidKinds := [.handle, .data], laidTests := true, laidLooks := .later }
def RuleWorthUptoCardSaid : Prop := Claim7.holds Tryd.pinned (.plain (OpenSpec.upto ruleWorthSpec)) ruleWorthUptoCard

/-- THE SECOND FORM's CARD OF 'moneyerlaw10.BlockGets'. -/
def blockGetsUptoCard : Claim7 := { stood := { row := blockGetsUptoRow, standIns := [], harness := (true, "0c6d4264e0ed8acc40cc4496f01ec287ee8a5d50ec8e4f070eefe262ad2cad52"), looks := true }, kinds := [], alts := [], laidByText := true, laidKinds := [.handle, .data], laidTests := true, laidLooks := .later }
def BlockGetsUptoCardSaid : Prop := Claim7.holds Tryd.pinned (.plain (OpenSpec.upto blockGetsSpec)) blockGetsUptoCard

/-- THE SECOND FORM's CARD OF 'moneyerlaw10.BlockSealed'. -/
def blockSealedUptoCard : Claim7 := { stood := { row := blockSealedUptoRow, standIns := [], harness := (true, "0c6d4264e0ed8acc40cc4496f01ec287ee8a5d50ec8e4f070eefe262ad2cad52"), looks := true }, kinds := [], alts := [], laidByText := true, laidKinds := [.handle, .data], laidTests := true, laidLooks := .later }
def BlockSealedUptoCardSaid : Prop := Claim7.holds Tryd.pinned (.plain (OpenSpec.upto blockSealedSpec)) blockSealedUptoCard

/-- THE SECOND FORM's CARD OF 'moneyerlaw10.BlockBack'. -/
def blockBackUptoCard : Claim7 := { stood := { row := blockBackUptoRow, standIns := [], harness := (true, "0c6d4264e0ed8acc40cc4496f01ec287ee8a5d50ec8e4f070eefe262ad2cad52"), looks := true }, kinds := [], alts := [], laidByText := true, laidKinds := [.handle, .data], laidTests := true, laidLooks := .later }
def BlockBackUptoCardSaid : Prop := Claim7.holds Tryd.pinned (.plain (OpenSpec.upto blockBackSpec)) blockBackUptoCard
end Rows
end Go.Proofs.YtalainpmlonahaaDoor
