/-
  Rows of rows of bytes of the call's own; steps. No program in sight but its types.
-/
import Derived.Test.YtalainpmlonahaaDoorVlib
import Derived.Test.YtalainpmlonahaaDoorVtypes
import Derived.Test.YtalainpmlonahaaDoorMc
import Derived.Test.YtalainpmlonahaaDoorVcat
set_option linter.all false
set_option maxRecDepth 100000
namespace Go.Proofs.YtalainpmlonahaaDoor
open Go.RowKit

/-- a row of the call's own, whose elements are, too -/
structure Ow (G : Type) where
  s : Sv
  gs : List G
/-- what becomes of an element: its own row -/
@[reducible] def bsRow (x : BsG) : Assn := rw_ 5 RB x.1 x.2.length x.2
theorem lot_sub {L l : List Assn} {w0 w : World} {X : Nat → Prop} (h : FLot L l) (hw : St w0 X L w) {G : Type} {e : TypeId} {R : Rep G} {s : Sv} {n : Nat} {gs : List G} (hm : rw_ e R s n gs ∈ l) : Slr w R (sl s n) gs := Slr.of_lot h hm hw
instance BsR.lot {w0 : World} {X : Nat → Prop} {L : List Assn} {gs : List BsG} [h : FLot L (gs.map bsRow)] : BsR w0 X L gs := ⟨fun w hw x hx => Slr.of_lot (e := 5) (s := x.1) (n := x.2.length) (gs := x.2) h (List.mem_map.2 ⟨x, hx, rfl⟩) hw⟩
instance BsR.cutT {w0 : World} {X : Nat → Prop} {L : List Assn} {gs : List BsG} {k l : Nat} [h : BsR w0 X L gs] : BsR w0 X L ((gs.drop l).take k) := ⟨fun w hw x hx => h.get w hw x (List.mem_of_mem_drop (List.mem_of_mem_take hx))⟩
@[reducible] def bsK (x : BsG) : List UInt8 := x.2
end Go.Proofs.YtalainpmlonahaaDoor
