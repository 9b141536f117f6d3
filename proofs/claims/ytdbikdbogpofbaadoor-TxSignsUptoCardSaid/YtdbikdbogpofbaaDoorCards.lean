/-
  DERIVED. GIVEN WITH THE SEED: THE CARDS: each row of YtdbikdbogpofbaaDoorRows.lean that lists a variable, with what it lists TIED to the program's text (the seventh form; the later family's looks); each row that meets fmt, with fmt's text TOLD by the authors' own Lean function (tested against real Go, not proved from fmt's source: count such statements apart). THE CARD IS WHAT COUNTS. Prove the row's statement (the work); the ties are given (YtdbikdbogpofbaaDoorTie.lean); close each card by the builder's one call (the guide's Derived/Test/ToyasCard.lean, 'card_holds'). Laid BY PROGRAM, IN A SANDBOX (cutbox-door.mjs). By AI agents, Wed Nov 11 2026. No macro, syntax, notation, axiom, sorry.
-/
import Derived.Test.YtdbikdbogpofbaaDoorRows
import GoSem.ClaimSeven
namespace Go.Proofs.YtdbikdbogpofbaaDoor
namespace Rows

/-- THE TIED CARD OF 'moneyerlaw07.TxGets'. -/
def txGetsCard : Claim7 := { stood := { row := txGetsRow, standIns := [], harness := (true, "1bc468c3c49699e5671656557383553fdbfe89b13770555921d6948c639e66e2"), looks := false }, kinds := [], alts := [], laidByText := true, laidKinds := [.data], laidTests := true, laidLooks := .later }
def TxGetsCardSaid : Prop := Claim7.holds Tryd.pinned (.plain (OpenSpec.ofChange txGetsSpec)) txGetsCard

/-- THE TIED CARD OF 'moneyerlaw07.TxFresh'. -/
def txFreshCard : Claim7 := { stood := { row := txFreshRow, standIns := [], harness := (true, "1bc468c3c49699e5671656557383553fdbfe89b13770555921d6948c639e66e2"), looks := false }, kinds := [], alts := [], laidByText := true, laidKinds := [.data], laidTests := true, laidLooks := .later }
def TxFreshCardSaid : Prop := Claim7.holds Tryd.pinned (.plain (OpenSpec.ofChange txFreshSpec)) txFreshCard

/-- THE TIED CARD OF 'moneyerlaw07.TxPuts'. -/
def txPutsCard : Claim7 := { stood := { row := txPutsRow, standIns := [], harness := (true, "1bc468c3c49699e5671656557383553fdbfe89b13770555921d6948c639e66e2"), looks := false }, kinds := [], alts := [], laidByText := true, laidKinds := [.data], laidTests := true, laidLooks := .later }
def TxPutsCardSaid : Prop := Claim7.holds Tryd.pinned (.plain (OpenSpec.ofChange txPutsSpec)) txPutsCard

/-- THE TIED CARD OF 'moneyerlaw07.TxSigns'. -/
def txSignsCard : Claim7 := { stood := { row := txSignsRow, standIns := [], harness := (true, "1bc468c3c49699e5671656557383553fdbfe89b13770555921d6948c639e66e2"), looks := false }, kinds := [], alts := [], laidByText := true, laidKinds := [.data], laidTests := true, laidLooks := .later }
def TxSignsCardSaid : Prop := Claim7.holds Tryd.pinned (.plain (OpenSpec.ofChange txSignsSpec)) txSignsCard

/-- THE TIED CARD OF 'moneyerlaw07.TxBack'. -/
def txBackCard : Claim7 := { stood := { row := txBackRow, standIns := [], harness := (true, "1bc468c3c49699e5671656557383553fdbfe89b13770555921d6948c639e66e2"), looks := false }, kinds := [], alts := [], laidByText := true, laidKinds := [.data], laidTests := true, laidLooks := .later }
def TxBackCardSaid : Prop := Claim7.holds Tryd.pinned (.plain (OpenSpec.ofChange txBackSpec)) txBackCard

/-- THE SECOND FORM's CARD OF 'moneyerlaw07.TxGets'. -/
def txGetsUptoCard : Claim7 := { stood := { row := txGetsUptoRow, standIns := [], harness := (true, "1bc468c3c49699e5671656557383553fdbfe89b13770555921d6948c639e66e2"), looks := false }, kinds := [], alts := [], laidByText := true, laidKinds := [.data], laidTests := true, laidLooks := .later }
def TxGetsUptoCardSaid : Prop := Claim7.holds Tryd.pinned (.plain (OpenSpec.upto txGetsSpec)) txGetsUptoCard

/-- THE SECOND FORM's CARD OF 'moneyerlaw07.TxFresh'. -/
def txFreshUptoCard : Claim7 := { stood := { row := txFreshUptoRow, standIns := [], harness := (true, "1bc468c3c49699e5671656557383553fdbfe89b13770555921d6948c639e66e2"), looks := false }, kinds := [], alts := [], laidByText := true, laidKinds := [.data], laidTests := true, laidLooks := .later }
def TxFreshUptoCardSaid : Prop := Claim7.holds Tryd.pinned (.plain (OpenSpec.upto txFreshSpec)) txFreshUptoCard

/-- THE SECOND FORM's CARD OF 'moneyerlaw07.TxPuts'. -/
def txPutsUptoCard : Claim7 := { stood := { row := txPutsUptoRow, standIns := [], harness := (true, "1bc468c3c49699e5671656557383553fdbfe89b13770555921d6948c639e66e2"), looks := false }, kinds := [], alts := [], laidByText := true, laidKinds := [.data], laidTests := true, laidLooks := .later }
def TxPutsUptoCardSaid : Prop := Claim7.holds Tryd.pinned (.plain (OpenSpec.upto txPutsSpec)) txPutsUptoCard

/-- THE SECOND FORM's CARD OF 'moneyerlaw07.TxSigns'. -/
def txSignsUptoCard : Claim7 := { stood := { row := txSignsUptoRow, standIns := [], harness := (true, "1bc468c3c49699e5671656557383553fdbfe89b13770555921d6948c639e66e2"), looks := false }, kinds := [], alts := [], laidByText := true, laidKinds := [.data], laidTests := true, laidLooks := .later }
def TxSignsUptoCardSaid : Prop := Claim7.holds Tryd.pinned (.plain (OpenSpec.upto txSignsSpec)) txSignsUptoCard

/-- THE SECOND FORM's CARD OF 'moneyerlaw07.TxBack'. -/
def txBackUptoCard : Claim7 := { stood := { row := txBackUptoRow, standIns := [], harness := (true, "1bc468c3c49699e5671656557383553fdbfe89b13770555921d6948c639e66e2"), looks := false }, kinds := [], alts := [], laidByText := true, laidKinds := [.data], laidTests := true, laidLooks := .later }
def TxBackUptoCardSaid : Prop := Claim7.holds Tryd.pinned (.plain (OpenSpec.upto txBackSpec)) txBackUptoCard
end Rows
end Go.Proofs.YtdbikdbogpofbaaDoor
