/-
  tx.Id, tx.Digest, and the references': contracts.
-/
import Derived.Test.YtalainpmlonahaaDoorVcat
import Derived.Test.YtalainpmlonahaaDoorVshaS
import Derived.Test.YtalainpmlonahaaDoorVlaw
set_option linter.all false
set_option maxRecDepth 100000
set_option synthInstance.maxHeartbeats 1000000
set_option synthInstance.maxSize 4000
set_option maxHeartbeats 4000000
namespace Go.Proofs.YtalainpmlonahaaDoor
open Go.RowKit

def idH (ins : List InG) (outs : List OutG) (after : Int) : Hsh := if TxMay ins outs after then sha2 (txB ins outs after) else zH
theorem tx_Id (insA : Option Addr) (insc : Nat) (ins : List InG) (outsA : Option Addr) (outsc : Nat) (outs : List OutG) (after : Int) (w0 : World) (hK : KOk w0) (hins : Slr w0 RIn (.slice insA ins.length insc) ins) (q_ins : InsP w0 ins) (houts : Slr w0 ROut (.slice outsA outs.length outsc) outs) (q_outs : OutsP w0 outs) (hp : (0 ≤ after ∧ after ≤ 4294967295) ∧ InsN ins ∧ OutsN outs) :
    Ct Tryd.prog 54 [Ag [.one (.slice insA ins.length insc), .one (.slice outsA outs.length outsc), .one (.int .u32 after)]] w0 no (fun ((e0, e1) : List UInt8 × Int) => .tuple #[Ag [.blk 32 (RB.all e0)], .int .i64 e1]) (fun (e0, e1) => []) (fun (e0, e1) => e0 = (idH ins outs after).l ∧ e1 = txE ins outs after) := by
  have hst := St.start w0
  have j_hK := KR.old hK
  have i_ins := Rw.old hins
  have j_ins := InsR.old q_ins
  have i_outs := Rw.old houts
  have j_outs := OutsR.old q_outs
  refine genter _ hst Tryd.func54 rfl rfl rfl rfl ?_
  obtain ⟨hp1, hn1, hn2⟩ := hp
  by_cases hm : TxMay ins outs after
  · have e1 : txE ins outs after = 0 := if_pos hm
    have e2 : txL ins outs after = txB ins outs after := if_pos hm
    have e3 : idH ins outs after = sha2 (txB ins outs after) := if_pos hm
    rw [e1, e3]
    repeat' (first
     | refine gba0 rfl rfl rfl ?_
     | (refine z1 ?_; intros)
     | (refine z2 ?_ ?_ <;> first | exact zi | intro h | skip)
     | (refine kR ?_; refine zr (_, _) ?_)
     | (refine kO ?_; refine zc ?_ ?_ <;> intros)
     | (refine kD ?_; exact dz))
    all_goals first | (exfalso; omega) | (rw [e2]; exact ⟨rfl, rfl⟩)
  · have e1 : txE ins outs after = 2 := if_neg hm
    have e3 : idH ins outs after = zH := if_neg hm
    rw [e1, e3]
    repeat' (first
     | refine gba0 rfl rfl rfl ?_
     | (refine z1 ?_; intros)
     | (refine z2 ?_ ?_ <;> first | exact zi | intro h | skip)
     | (refine kR ?_; refine zr (_, _) ?_)
     | (refine kO ?_; refine zc ?_ ?_ <;> intros)
     | (refine kD ?_; exact dz))
    all_goals first | (exfalso; omega) | (rw [e1]; exact ⟨rfl, rfl⟩)
instance c_tx_Id {insA : Option Addr} {insc insn : Nat} {ins : List InG} {outsA : Option Addr} {outsc outsn : Nat} {outs : List OutG} {after : Int} {w0 : World} {X : Nat → Prop} {L : List Assn} [hK : KR w0 X L] [hins : Rw w0 X L (.slice insA insn insc) RIn ins] [q_ins : InsR w0 X L ins] [houts : Rw w0 X L (.slice outsA outsn outsc) ROut outs] [q_outs : OutsR w0 X L outs] : Ctr Tryd.prog 54 [Ag [.one (.slice insA insn insc), .one (.slice outsA outsn outsc), .one (.int .u32 after)]] w0 X L ((0 ≤ after ∧ after ≤ 4294967295) ∧ InsN ins ∧ OutsN outs) (fun _ : Unit => .tuple #[Ag [.blk 32 (RB.all (idH ins outs after).l)], .int .i64 (txE ins outs after)]) (fun _ : Unit => L) (fun _ : Unit => True) :=
  ctr' (M' := (fun _ : Unit => [])) (by kernel_rfl) (fun hp w hw => by have eins := hins.len hw; subst eins; have eouts := houts.len hw; subst eouts; exact tx_Id _ _ _ _ _ _ _ w (hK.get w hw) (hins.get w hw) (q_ins.get w hw) (houts.get w hw) (q_outs.get w hw) hp) (by rintro hp ⟨e0, e1⟩ ⟨rfl, rfl⟩ ok; exact ⟨(), rfl, rfl, trivial⟩)
end Go.Proofs.YtalainpmlonahaaDoor
