/-
  the laws of layer 7 that need no hash.
-/
import Derived.Test.YtalainpmlonahaaDoorVrd
set_option linter.all false
set_option maxRecDepth 100000
set_option synthInstance.maxHeartbeats 1000000
set_option synthInstance.maxSize 4000

namespace Go.Proofs.YtalainpmlonahaaDoor
open Go.RowKit

section
variable {w0 : World} {X : Nat → Prop} {L : List Assn}
instance InsR.nil : InsR w0 X L [] := ⟨fun _ _ _ h => by cases h⟩
instance OutsR.nil : OutsR w0 X L [] := ⟨fun _ _ _ h => by cases h⟩
end
end Go.Proofs.YtalainpmlonahaaDoor
