/-
  DERIVED. GIVEN WITH THE SEED: THE CARDS: each row of YtkjpemkankefnaaDoorRows.lean that lists a variable, with what it lists TIED to the program's text (the seventh form; the later family's looks); each row that meets fmt, with fmt's text TOLD by the authors' own Lean function (tested against real Go, not proved from fmt's source: count such statements apart). THE CARD IS WHAT COUNTS. Prove the row's statement (the work); the ties are given (YtkjpemkankefnaaDoorTie.lean); close each card by the builder's one call (the guide's Derived/Test/ToyasCard.lean, 'card_holds'). Laid BY PROGRAM, IN A SANDBOX (cutbox-door.mjs). By AI agents, Wed Nov 11 2026. No macro, syntax, notation, axiom, sorry.
-/
import Derived.Test.YtkjpemkankefnaaDoorRows
import GoSem.ClaimSeven
namespace Go.Proofs.YtkjpemkankefnaaDoor
namespace Rows

/-- THE TIED CARD OF 'moneyerlaw14.ExecRuns'. -/
def execRunsCard : Claim7 := { stood := { row := execRunsRow, standIns := [], harness := (true, "8e0b543c02566d412ac63f3711d8fcf46a51abab11900b91b0545ea7e9d9f163"), looks := false }, kinds := [], alts := [], laidByText := true, laidKinds := [.data], laidTests := true, laidLooks := .later }
def ExecRunsCardSaid : Prop := Claim7.holds Tryd.pinned (.plain (OpenSpec.ofChange execRunsSpec)) execRunsCard

/-- THE TIED CARD OF 'moneyerlaw14.ExecOpens'. -/
def execOpensCard : Claim7 := { stood := { row := execOpensRow, standIns := [], harness := (true, "8e0b543c02566d412ac63f3711d8fcf46a51abab11900b91b0545ea7e9d9f163"), looks := false }, kinds := [], alts := [], laidByText := true, laidKinds := [.data], laidTests := true, laidLooks := .later }
def ExecOpensCardSaid : Prop := Claim7.holds Tryd.pinned (.plain (OpenSpec.ofChange execOpensSpec)) execOpensCard

/-- THE TIED CARD OF 'moneyerlaw14.ExecSteps'. -/
def execStepsCard : Claim7 := { stood := { row := execStepsRow, standIns := [], harness := (true, "8e0b543c02566d412ac63f3711d8fcf46a51abab11900b91b0545ea7e9d9f163"), looks := false }, kinds := [], alts := [], laidByText := true, laidKinds := [.data], laidTests := true, laidLooks := .later }
def ExecStepsCardSaid : Prop := Claim7.holds Tryd.pinned (.plain (OpenSpec.ofChange execStepsSpec)) execStepsCard

/-- THE TIED CARD OF 'moneyerlaw14.ExecParts'. -/
def execPartsCard : Claim7 := { stood := { row := execPartsRow, standIns := [], harness := (true, "8e0b543c02566d412ac63f3711d8fcf46a51abab11900b91b0545ea7e9d9f163"), looks := false }, kinds := [], alts := [], laidByText := true, laidKinds := [.data], laidTests := true, laidLooks := .later }
def ExecPartsCardSaid : Prop := Claim7.holds Tryd.pinned (.plain (OpenSpec.ofChange execPartsSpec)) execPartsCard

/-- THE TIED CARD OF 'moneyerlaw14.ExecSound'. -/
def execSoundCard : Claim7 := { stood := { row := execSoundRow, standIns := [], harness := (true, "8e0b543c02566d412ac63f3711d8fcf46a51abab11900b91b0545ea7e9d9f163"), looks := false }, kinds := [], alts := [], laidByText := true, laidKinds := [.data], laidTests := true, laidLooks := .later }
def ExecSoundCardSaid : Prop := Claim7.holds Tryd.pinned (.plain (OpenSpec.ofChange execSoundSpec)) execSoundCard

/-- THE TIED CARD OF 'moneyerlaw14.ExecHeight'. -/
def execHeightCard : Claim7 := { stood := { row := execHeightRow, standIns := [], harness := (true, "8e0b543c02566d412ac63f3711d8fcf46a51abab11900b91b0545ea7e9d9f163"), looks := false }, kinds := [], alts := [], laidByText := true, laidKinds := [.data], laidTests := true, laidLooks := .later }
def ExecHeightCardSaid : Prop := Claim7.holds Tryd.pinned (.plain (OpenSpec.ofChange execHeightSpec)) execHeightCard

/-- THE SECOND FORM's CARD OF 'moneyerlaw14.ExecRuns'. -/
def execRunsUptoCard : Claim7 := { stood := { row := execRunsUptoRow, standIns := [], harness := (true, "8e0b543c02566d412ac63f3711d8fcf46a51abab11900b91b0545ea7e9d9f163"), looks := false }, kinds := [], alts := [], laidByText := true, laidKinds := [.data], laidTests := true, laidLooks := .later }
def ExecRunsUptoCardSaid : Prop := Claim7.holds Tryd.pinned (.plain (OpenSpec.upto execRunsSpec)) execRunsUptoCard

/-- THE SECOND FORM's CARD OF 'moneyerlaw14.ExecOpens'. -/
def execOpensUptoCard : Claim7 := { stood := { row := execOpensUptoRow, standIns := [], harness := (true, "8e0b543c02566d412ac63f3711d8fcf46a51abab11900b91b0545ea7e9d9f163"), looks := false }, kinds := [], alts := [], laidByText := true, laidKinds := [.data], laidTests := true, laidLooks := .later }
def ExecOpensUptoCardSaid : Prop := Claim7.holds Tryd.pinned (.plain (OpenSpec.upto execOpensSpec)) execOpensUptoCard

/-- THE SECOND FORM's CARD OF 'moneyerlaw14.ExecSteps'. -/
def execStepsUptoCard : Claim7 := { stood := { row := execStepsUptoRow, standIns := [], harness := (true, "8e0b543c02566d412ac63f3711d8fcf46a51abab11900b91b0545ea7e9d9f163"), looks := false }, kinds := [], alts := [], laidByText := true, laidKinds := [.data], laidTests := true, laidLooks := .later }
def ExecStepsUptoCardSaid : Prop := Claim7.holds Tryd.pinned (.plain (OpenSpec.upto execStepsSpec)) execStepsUptoCard

/-- THE SECOND FORM's CARD OF 'moneyerlaw14.ExecParts'. -/
def execPartsUptoCard : Claim7 := { stood := { row := execPartsUptoRow, standIns := [], harness := (true, "8e0b543c02566d412ac63f3711d8fcf46a51abab11900b91b0545ea7e9d9f163"), looks := false }, kinds := [], alts := [], laidByText := true, laidKinds := [.data], laidTests := true, laidLooks := .later }
def ExecPartsUptoCardSaid : Prop := Claim7.holds Tryd.pinned (.plain (OpenSpec.upto execPartsSpec)) execPartsUptoCard

/-- THE SECOND FORM's CARD OF 'moneyerlaw14.ExecSound'. -/
def execSoundUptoCard : Claim7 := { stood := { row := execSoundUptoRow, standIns := [], harness := (true, "8e0b543c02566d412ac63f3711d8fcf46a51abab11900b91b0545ea7e9d9f163"), looks := false }, kinds := [], alts := [], laidByText := true, laidKinds := [.data], laidTests := true, laidLooks := .later }
def ExecSoundUptoCardSaid : Prop := Claim7.holds Tryd.pinned (.plain (OpenSpec.upto execSoundSpec)) execSoundUptoCard

/-- THE SECOND FORM's CARD OF 'moneyerlaw14.ExecHeight'. -/
def execHeightUptoCard : Claim7 := { stood := { row := execHeightUptoRow, standIns := [], harness := (true, "8e0b543c02566d412ac63f3711d8fcf46a51abab11900b91b0545ea7e9d9f163"), looks := false }, kinds := [], alts := [], laidByText := true, laidKinds := [.data], laidTests := true, laidLooks := .later }
def ExecHeightUptoCardSaid : Prop := Claim7.holds Tryd.pinned (.plain (OpenSpec.upto execHeightSpec)) execHeightUptoCard
end Rows
end Go.Proofs.YtkjpemkankefnaaDoor
