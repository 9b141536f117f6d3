/-
  moneyerlaw10: works, BlockGets.
-/
import Derived.Test.YtalainpmlonahaaDoorBr
set_option linter.all false
set_option maxRecDepth 100000
set_option maxHeartbeats 4000000
namespace Go.Proofs.YtalainpmlonahaaDoor
open Go.RowKit

def g0T : TxG := ⟨⟨none, 0⟩, [], ⟨none, 0⟩, [], 0⟩
instance iElmT0 : Elm RTx (.agg (flat [.one (.slice none 0 0), .one (.slice none 0 0), .one (.int .u32 0)]).toArray) g0T := ⟨by simp [Value.cells, RTx, TxG.sg, g0T]⟩
theorem bgH_n (l : List UInt8) (i : Int) : HdN (bgH l i).tm (bgH l i).bits (bgH l i).nonce := by
  unfold bgH; split
  · exact hdV_n l i
  · simp [zHd]
theorem brH_n (l : List UInt8) : HdN (brH l).tm (brH l).bits (brH l).nonce := by
  unfold brH; split
  · exact bgH_n l 0
  · simp [zHd]
section
variable {w0 : World} {X : Nat → Prop} {L : List Assn}
instance TxsR.zero : TxsR w0 X L [g0T] := ⟨fun w _ g hg => by
  obtain rfl : g = g0T := by simpa using hg
  exact ⟨Slr.nil, fun x hx => (by cases hx), Slr.nil, fun x hx => (by cases hx), by decide⟩⟩
end
theorem works10_ok (w0 : World) (hK : KOk w0) (hE : EOk w0) : Ct Tryd.prog 14 [] w0 no (fun _ : Unit => .bool true) (fun _ => []) (fun _ => True) := by
  have hst := St.start w0
  have j_K := KR.old hK
  have j_E := ER.old hE
  have f1 : bkE (headB (List.replicate 32 0) (List.replicate 32 0) 0 0 0) [] = 2 := by kernel_rfl
  have f2 : brE (List.replicate 76 0) = 4 := by kernel_rfl
  have f3 : brE (List.replicate 77 0) = 5 := by kernel_rfl
  have f4 : bkE (headB (List.replicate 32 0) (List.replicate 32 0) 0 0 0) [g0T] = 0 := by kernel_rfl
  have f5 : (bkL (headB (List.replicate 32 0) (List.replicate 32 0) 0 0 0) [g0T]).length = 83 := by kernel_rfl
  have f6 : sealedB (List.replicate 32 0) [] = false := by kernel_rfl
  have g1 : (List.replicate 76 (0 : UInt8)).length ≤ 140737488351232 := by decide
  have g2 : (List.replicate 77 (0 : UInt8)).length ≤ 140737488351232 := by decide
  have z0 : HdN 0 0 0 := by simp [HdN]
  refine genter _ hst Tryd.func14 rfl rfl rfl rfl ?_
  repeat' (first
   | (refine kO ?_; first | refine gm (m := 76) rfl rfl rfl (by omega) rfl (fun _ => ?_) (fun _ => ?_) | refine gm (m := 77) rfl rfl rfl (by omega) rfl (fun _ => ?_) (fun _ => ?_) | refine gbs RTx rfl rfl rfl rfl rfl rfl (fun _ => ?_) (fun _ => ?_))
   | (refine z1 ?_; intros)
   | (refine z2 ?_ ?_ <;> first | exact zi | intro h | skip)
   | (refine kR ?_; refine zr (()) ?_)
   | (refine kO ?_; refine zc ?_ ?_ <;> intros)
   | (refine kD ?_; exact dz))
  all_goals trivial
instance c_works10 {w0 : World} {X : Nat → Prop} {L : List Assn} [hK : KR w0 X L] [hE : ER w0 X L] : Ctr Tryd.prog 14 [] w0 X L True (fun _ : Unit => .bool true) (fun _ : Unit => L) (fun _ : Unit => True) :=
  ctr' (M' := fun _ : Unit => []) (by kernel_rfl) (fun _ w hw => works10_ok w (hK.get w hw) (hE.get w hw)) (by rintro _ ⟨⟩ _ _; exact ⟨(), rfl, rfl, trivial⟩)
theorem blockGets_ok (lA : Option Addr) (lc : Nat) (l : List UInt8) (i : Int) (w0 : World) (hK : KOk w0) (hE : EOk w0) (hl : Slr w0 RB (.slice lA l.length lc) l) (hp : l.length ≤ 140737488351232) :
    Ct Tryd.prog 4 [.slice lA l.length lc, .int .i64 i] w0 no (fun _ : Unit => .bool true) (fun _ => []) (fun _ => True) := by
  have hst := St.start w0
  have i_l := Rw.old hl
  have j_K := KR.old hK
  have j_E := ER.old hE
  have n1 := bgH_n l i
  have n2 := brH_n l
  refine genter _ hst Tryd.func4 rfl rfl rfl rfl ?_
  repeat' (first
   | (refine z1 ?_; intros)
   | (refine z2 ?_ ?_ <;> first | exact zi | intro h | skip)
   | (refine kR ?_; refine zr (()) ?_)
   | (refine kO ?_; refine zc ?_ ?_ <;> intros))
  · trivial
  · rename ¬ BkSame _ _ _ _ _ _ _ _ _ _ _ _ => c
    exact absurd ⟨⟨rfl, rfl, rfl, rfl, rfl⟩, Eq.trans (b := brT l) (by assumption) (Eq.symm (by assumption))⟩ c
  · rename ¬ BkSame _ _ _ _ _ _ _ _ _ _ _ _ => c
    exact absurd ⟨⟨rfl, rfl, rfl, rfl, rfl⟩, Eq.trans (b := bgT l i) (by assumption) (Eq.symm (by assumption))⟩ c
end Go.Proofs.YtalainpmlonahaaDoor
