/-
  No cell of these rows narrows 'for every input' (looked for: loops, veiled, ifaces, maps, wideKeys, modest, calm, conditions, laid).
  DERIVED. THE GIVEN ROWS OF THIS SEAT. 5 by the template 'for every input the law returns true; each argument reads behind the call as it read before'; 0 by the template 'total and deterministic' (their statements: YtjiglibogmehfaaTotals.lean).
  GIVEN WITH THE SEED: the statements are not yours to turn. If you find one false, say at which input.
  Laid BY PROGRAM, IN A SANDBOX (cutbox-rows.mjs): the forced cells as the released guide's own fill.sh prints them over the translation 0f891d72bc0fb0c0… (all of the seat's roots in one cut). By AI agents, Wed Nov 11 2026. No macro, syntax, notation, axiom, sorry.
-/
import Derived.Test.YtjiglibogmehfaaChecked
import GoSem.Claim
import GoSem.ClaimJoined
import GoSem.ClaimMapViews
import Derived.JoinedTies
import Derived.KernelRfl
namespace Go.Proofs.Ytjiglibogmehfaa
/- THE CELL 'sum', in the pinned program and in every row, IS THE sha256 OF THE DUMP (.gsa) THAT YtjiglibogmehfaaProg.lean LOADS. Nothing in Lean hashes anything: it is a label: what it is worth is what the hold of that sum in a sandbox is worth. -/
noncomputable def Try.pinned : Pinned := { name := "ytjiglibogmehfaa", sum := "0f891d72bc0fb0c09b42a89a09b3b6f7adc964311280097d25e0d3aa902b04c7", checked := Try.checked }
namespace Rows
def none {H : Type} : Left H := { results := [], args := [] }

/-- 'moneyerlaw15.PlaceNeeds': WHATEVER THE INPUT: true; the input reads as it did. -/
def placeNeedsSpec : ChangeSpec := { name := "placeNeeds", fn := fun _ => fun
  | [d1, d2] => { results := [.lit (.bool true)], args := [d1, d2] }
  | _ => none }
def placeNeedsRow : OpenClaim := { program := "ytjiglibogmehfaa", sum := "0f891d72bc0fb0c09b42a89a09b3b6f7adc964311280097d25e0d3aa902b04c7", func := "moneyer/moneyerlaw15.PlaceNeeds", spec := "placeNeeds", unfollowed := true, recurses := true, plainKeys := false, apart := false }
def PlaceNeedsSaid : Prop := placeNeedsRow.holds Try.pinned (OpenSpec.ofChange placeNeedsSpec)

/-- ITS FALSE NEIGHBOUR: 'it returns false'. Refute it at one input. -/
def placeNeedsWrong : ChangeSpec := { name := "placeNeeds", fn := fun _ => fun
  | [d1, d2] => { results := [.lit (.bool false)], args := [d1, d2] }
  | _ => none }
def PlaceNeedsWrongFalsely : Prop := placeNeedsRow.holds Try.pinned (OpenSpec.ofChange placeNeedsWrong)

/-- 'moneyerlaw15.PlaceTrees': WHATEVER THE INPUT: true; the input reads as it did. -/
def placeTreesSpec : ChangeSpec := { name := "placeTrees", fn := fun _ => fun
  | [d1, d2, d3] => { results := [.lit (.bool true)], args := [d1, d2, d3] }
  | _ => none }
def placeTreesRow : OpenClaim := { program := "ytjiglibogmehfaa", sum := "0f891d72bc0fb0c09b42a89a09b3b6f7adc964311280097d25e0d3aa902b04c7", func := "moneyer/moneyerlaw15.PlaceTrees", spec := "placeTrees", unfollowed := true, recurses := true, plainKeys := false, apart := false }
def PlaceTreesSaid : Prop := placeTreesRow.holds Try.pinned (OpenSpec.ofChange placeTreesSpec)

/-- ITS FALSE NEIGHBOUR: 'it returns false'. Refute it at one input. -/
def placeTreesWrong : ChangeSpec := { name := "placeTrees", fn := fun _ => fun
  | [d1, d2, d3] => { results := [.lit (.bool false)], args := [d1, d2, d3] }
  | _ => none }
def PlaceTreesWrongFalsely : Prop := placeTreesRow.holds Try.pinned (OpenSpec.ofChange placeTreesWrong)

/-- 'moneyerlaw15.PlaceMoves': WHATEVER THE INPUT: true; the input reads as it did. -/
def placeMovesSpec : ChangeSpec := { name := "placeMoves", fn := fun _ => fun
  | [d1, d2] => { results := [.lit (.bool true)], args := [d1, d2] }
  | _ => none }
def placeMovesRow : OpenClaim := { program := "ytjiglibogmehfaa", sum := "0f891d72bc0fb0c09b42a89a09b3b6f7adc964311280097d25e0d3aa902b04c7", func := "moneyer/moneyerlaw15.PlaceMoves", spec := "placeMoves", unfollowed := true, recurses := true, plainKeys := false, apart := false }
def PlaceMovesSaid : Prop := placeMovesRow.holds Try.pinned (OpenSpec.ofChange placeMovesSpec)

/-- ITS FALSE NEIGHBOUR: 'it returns false'. Refute it at one input. -/
def placeMovesWrong : ChangeSpec := { name := "placeMoves", fn := fun _ => fun
  | [d1, d2] => { results := [.lit (.bool false)], args := [d1, d2] }
  | _ => none }
def PlaceMovesWrongFalsely : Prop := placeMovesRow.holds Try.pinned (OpenSpec.ofChange placeMovesWrong)

/-- 'moneyerlaw15.PlaceCover': WHATEVER THE INPUT: true; the input reads as it did. -/
def placeCoverSpec : ChangeSpec := { name := "placeCover", fn := fun _ => fun
  | [d] => { results := [.lit (.bool true)], args := [d] }
  | _ => none }
def placeCoverRow : OpenClaim := { program := "ytjiglibogmehfaa", sum := "0f891d72bc0fb0c09b42a89a09b3b6f7adc964311280097d25e0d3aa902b04c7", func := "moneyer/moneyerlaw15.PlaceCover", spec := "placeCover", unfollowed := true, recurses := true, plainKeys := false, apart := false }
def PlaceCoverSaid : Prop := placeCoverRow.holds Try.pinned (OpenSpec.ofChange placeCoverSpec)

/-- ITS FALSE NEIGHBOUR: 'it returns false'. Refute it at one input. -/
def placeCoverWrong : ChangeSpec := { name := "placeCover", fn := fun _ => fun
  | [d] => { results := [.lit (.bool false)], args := [d] }
  | _ => none }
def PlaceCoverWrongFalsely : Prop := placeCoverRow.holds Try.pinned (OpenSpec.ofChange placeCoverWrong)

/-- 'moneyerlaw15.PlaceEnough': WHATEVER THE INPUT: true; the input reads as it did. -/
def placeEnoughSpec : ChangeSpec := { name := "placeEnough", fn := fun _ => fun
  | [d1, d2] => { results := [.lit (.bool true)], args := [d1, d2] }
  | _ => none }
def placeEnoughRow : OpenClaim := { program := "ytjiglibogmehfaa", sum := "0f891d72bc0fb0c09b42a89a09b3b6f7adc964311280097d25e0d3aa902b04c7", func := "moneyer/moneyerlaw15.PlaceEnough", spec := "placeEnough", unfollowed := true, recurses := true, plainKeys := false, apart := false }
def PlaceEnoughSaid : Prop := placeEnoughRow.holds Try.pinned (OpenSpec.ofChange placeEnoughSpec)

/-- ITS FALSE NEIGHBOUR: 'it returns false'. Refute it at one input. -/
def placeEnoughWrong : ChangeSpec := { name := "placeEnough", fn := fun _ => fun
  | [d1, d2] => { results := [.lit (.bool false)], args := [d1, d2] }
  | _ => none }
def PlaceEnoughWrongFalsely : Prop := placeEnoughRow.holds Try.pinned (OpenSpec.ofChange placeEnoughWrong)

/- THE SECOND FORM. 'bulk': how many values and letters a reading holds, each counted each time it is reached (what is shared counts as often as it is met; a slice's spare places count too). A statement '..UptoSaid' is the law's where the arguments, and the package variables that the reading takes, are together of bulk at most 1048576: NARROWER than '..Said'. Prove '..Said' where nothing that the law and all that it calls make is longer than what came in: it says more and counts as full. Else prove '..UptoSaid'. A law counts once. -/
mutual
def uptoBulk {H : Type} : DataW H → Nat
  | .lit (.string bytes) => bytes.length + 1
  | .lit _ => 1
  | .nil => 1
  | .ptr d => uptoBulk d + 1
  | .slice elems spare => uptoBulkAll elems + uptoBulkAll spare + 1
  | .agg parts => uptoBulkAll parts + 1
  | .iface _ d => uptoBulk d + 1
  | .map entries => uptoBulkEntries entries + 1
  | .held _ => 1
def uptoBulkAll {H : Type} : List (DataW H) → Nat
  | [] => 0
  | d :: r => uptoBulk d + uptoBulkAll r
def uptoBulkEntries {H : Type} : List (Lit × DataW H) → Nat
  | [] => 0
  | x :: r => uptoBulkEntry x + uptoBulkEntries r
def uptoBulkEntry {H : Type} : Lit × DataW H → Nat
  | (.string bytes, d) => bytes.length + uptoBulk d + 1
  | (_, d) => uptoBulk d + 1
 end
def uptoSmall : (H : Type) → List (DataW H) → Bool := fun _ ds => decide (uptoBulkAll ds ≤ 1048576)
def OpenSpec.upto (s : _root_.Go.ChangeSpec) : _root_.Go.OpenSpec := { _root_.Go.OpenSpec.ofChange s with cond := some uptoSmall }

/-- 'moneyerlaw15.PlaceNeeds', WHERE WHAT IT READS IS OF BULK AT MOST 1048576: true; the input reads as it did. -/
def placeNeedsUptoRow : OpenClaim := { program := "ytjiglibogmehfaa", sum := "0f891d72bc0fb0c09b42a89a09b3b6f7adc964311280097d25e0d3aa902b04c7", func := "moneyer/moneyerlaw15.PlaceNeeds", spec := "placeNeeds", unfollowed := true, recurses := true, plainKeys := false, apart := false, narrowed := true }
def PlaceNeedsUptoSaid : Prop := placeNeedsUptoRow.holds Try.pinned (OpenSpec.upto placeNeedsSpec)

/-- 'moneyerlaw15.PlaceTrees', WHERE WHAT IT READS IS OF BULK AT MOST 1048576: true; the input reads as it did. -/
def placeTreesUptoRow : OpenClaim := { program := "ytjiglibogmehfaa", sum := "0f891d72bc0fb0c09b42a89a09b3b6f7adc964311280097d25e0d3aa902b04c7", func := "moneyer/moneyerlaw15.PlaceTrees", spec := "placeTrees", unfollowed := true, recurses := true, plainKeys := false, apart := false, narrowed := true }
def PlaceTreesUptoSaid : Prop := placeTreesUptoRow.holds Try.pinned (OpenSpec.upto placeTreesSpec)

/-- 'moneyerlaw15.PlaceMoves', WHERE WHAT IT READS IS OF BULK AT MOST 1048576: true; the input reads as it did. -/
def placeMovesUptoRow : OpenClaim := { program := "ytjiglibogmehfaa", sum := "0f891d72bc0fb0c09b42a89a09b3b6f7adc964311280097d25e0d3aa902b04c7", func := "moneyer/moneyerlaw15.PlaceMoves", spec := "placeMoves", unfollowed := true, recurses := true, plainKeys := false, apart := false, narrowed := true }
def PlaceMovesUptoSaid : Prop := placeMovesUptoRow.holds Try.pinned (OpenSpec.upto placeMovesSpec)

/-- 'moneyerlaw15.PlaceCover', WHERE WHAT IT READS IS OF BULK AT MOST 1048576: true; the input reads as it did. -/
def placeCoverUptoRow : OpenClaim := { program := "ytjiglibogmehfaa", sum := "0f891d72bc0fb0c09b42a89a09b3b6f7adc964311280097d25e0d3aa902b04c7", func := "moneyer/moneyerlaw15.PlaceCover", spec := "placeCover", unfollowed := true, recurses := true, plainKeys := false, apart := false, narrowed := true }
def PlaceCoverUptoSaid : Prop := placeCoverUptoRow.holds Try.pinned (OpenSpec.upto placeCoverSpec)

/-- 'moneyerlaw15.PlaceEnough', WHERE WHAT IT READS IS OF BULK AT MOST 1048576: true; the input reads as it did. -/
def placeEnoughUptoRow : OpenClaim := { program := "ytjiglibogmehfaa", sum := "0f891d72bc0fb0c09b42a89a09b3b6f7adc964311280097d25e0d3aa902b04c7", func := "moneyer/moneyerlaw15.PlaceEnough", spec := "placeEnough", unfollowed := true, recurses := true, plainKeys := false, apart := false, narrowed := true }
def PlaceEnoughUptoSaid : Prop := placeEnoughUptoRow.holds Try.pinned (OpenSpec.upto placeEnoughSpec)

end Rows
end Go.Proofs.Ytjiglibogmehfaa
