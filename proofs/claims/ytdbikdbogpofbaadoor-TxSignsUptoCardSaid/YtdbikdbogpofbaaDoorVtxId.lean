/-
  tx.Id, tx.Digest, and the references': contracts.
-/
import Derived.Test.YtdbikdbogpofbaaDoorVcat
import Derived.Test.YtdbikdbogpofbaaDoorVref02S
import Derived.Test.YtdbikdbogpofbaaDoorVlaw
set_option linter.all false
set_option maxRecDepth 100000
set_option synthInstance.maxHeartbeats 1000000
set_option synthInstance.maxSize 4000
set_option maxHeartbeats 4000000
namespace Go.Proofs.YtdbikdbogpofbaaDoor
open Go.RowKit

def idH (ins : List InG) (outs : List OutG) (after : Int) : Hsh := if TxMay ins outs after then sha2 (txB ins outs after) else zH
theorem tx_Id (insA : Option Addr) (insc : Nat) (ins : List InG) (outsA : Option Addr) (outsc : Nat) (outs : List OutG) (after : Int) (w0 : World) (hK : KOk w0) (hins : Slr w0 RIn (.slice insA ins.length insc) ins) (q_ins : InsP w0 ins) (houts : Slr w0 ROut (.slice outsA outs.length outsc) outs) (q_outs : OutsP w0 outs) (hp : (0 ≤ after ∧ after ≤ 4294967295) ∧ InsN ins ∧ OutsN outs) :
    Ct Tryd.prog 20 [Ag [.one (.slice insA ins.length insc), .one (.slice outsA outs.length outsc), .one (.int .u32 after)]] w0 no (fun ((e0, e1) : List UInt8 × Int) => .tuple #[Ag [.blk 32 (RB.all e0)], .int .i64 e1]) (fun (e0, e1) => []) (fun (e0, e1) => e0 = (idH ins outs after).l ∧ e1 = txE ins outs after) := by
  have hst := St.start w0
  have j_hK := KR.old hK
  have i_ins := Rw.old hins
  have j_ins := InsR.old q_ins
  have i_outs := Rw.old houts
  have j_outs := OutsR.old q_outs
  refine genter _ hst Tryd.func20 rfl rfl rfl rfl ?_
  obtain ⟨hp1, hn1, hn2⟩ := hp
  by_cases hm : TxMay ins outs after
  · have e1 : txE ins outs after = 0 := if_pos hm
    have e2 : txL ins outs after = txB ins outs after := if_pos hm
    have e3 : idH ins outs after = sha2 (txB ins outs after) := if_pos hm
    rw [e1, e3]
    repeat' (first
     | (refine kO ?_; first | refine gba0 rfl rfl rfl ?_ | refine gv rfl rfl ?_ | refine gnil ?_ | refine gl rfl (lvb rfl rfl) rfl (fun _ => ?_) | refine gl rfl (lvB rfl rfl rfl) rfl (fun _ => ?_) | refine gl rfl (lve rfl rfl) rfl (fun _ => ?_) | refine gl rfl (lvE rfl rfl rfl) rfl (fun _ => ?_) | refine gl rfl (lva rfl rfl rfl rfl rfl) rfl (fun _ => ?_) | refine gp rfl (by (try simp only [InR]); omega) rfl ?_ | (refine kK ?_; first | refine gcall rfl ?_ rfl (fun _ _ => ?_) (fun _ _ => ?_) | refine gcv rfl rfl ?_ rfl (fun _ _ => ?_) (fun _ _ => ?_)) | refine gneq rfl rfl (by kernel_rfl) ?_ rfl ?_ | refine gbu rfl rfl rfl rfl rfl ?_ | refine gx rfl rfl (fun _ => ?_) (fun _ => ?_) | refine ga rfl (fun _ => ?_) (fun _ => ?_) | refine gst rfl rfl rfl rfl ?_ ?_ | refine ge rfl rfl rfl rfl ?_ ?_ | refine gea rfl rfl rfl rfl rfl rfl rfl ?_ ?_)
     | (refine kC ?_; first | refine gseq ?_ | refine greg ?_ | refine gret ?_ | refine gskip ?_ | (refine gcond rfl (fun h => ?_) (fun h => ?_) <;> (first | exact h.elim | (exfalso; omega) | skip)))
     | (refine kN ?_; first | refine gthen ?_)
     | (refine kR ?_; first | refine grs ?_ | refine grc ?_)
     | (refine kR ?_; refine gr rfl (rvC rfl (lvb rfl rfl) (rvT rfl rv0)) (_, _) rfl Ent.nil ?_)
     | (refine kR ?_; refine gr rfl (rvC rfl (lvB rfl rfl rfl) (rvT rfl rv0)) (_, _) rfl Ent.nil ?_)
     | (refine Pre.mk ?_; first | exact True.intro | omega | ((repeat' (first | refine And.intro ?_ ?_ | exact True.intro | assumption | omega)); done) | (simp only [and_true, true_and, or_true, true_or]; first | done | omega))
     | (refine kD ?_; first | exact dm_none))
    all_goals first | (exfalso; omega) | (rw [e2]; exact ⟨rfl, rfl⟩)
  · have e1 : txE ins outs after = 2 := if_neg hm
    have e3 : idH ins outs after = zH := if_neg hm
    rw [e1, e3]
    repeat' (first
     | (refine kO ?_; first | refine gba0 rfl rfl rfl ?_ | refine gv rfl rfl ?_ | refine gnil ?_ | refine gl rfl (lvb rfl rfl) rfl (fun _ => ?_) | refine gl rfl (lvB rfl rfl rfl) rfl (fun _ => ?_) | refine gl rfl (lve rfl rfl) rfl (fun _ => ?_) | refine gl rfl (lvE rfl rfl rfl) rfl (fun _ => ?_) | refine gl rfl (lva rfl rfl rfl rfl rfl) rfl (fun _ => ?_) | refine gp rfl (by (try simp only [InR]); omega) rfl ?_ | (refine kK ?_; first | refine gcall rfl ?_ rfl (fun _ _ => ?_) (fun _ _ => ?_) | refine gcv rfl rfl ?_ rfl (fun _ _ => ?_) (fun _ _ => ?_)) | refine gneq rfl rfl (by kernel_rfl) ?_ rfl ?_ | refine gbu rfl rfl rfl rfl rfl ?_ | refine gx rfl rfl (fun _ => ?_) (fun _ => ?_) | refine ga rfl (fun _ => ?_) (fun _ => ?_) | refine gst rfl rfl rfl rfl ?_ ?_ | refine ge rfl rfl rfl rfl ?_ ?_ | refine gea rfl rfl rfl rfl rfl rfl rfl ?_ ?_)
     | (refine kC ?_; first | refine gseq ?_ | refine greg ?_ | refine gret ?_ | refine gskip ?_ | (refine gcond rfl (fun h => ?_) (fun h => ?_) <;> (first | exact h.elim | (exfalso; omega) | skip)))
     | (refine kN ?_; first | refine gthen ?_)
     | (refine kR ?_; first | refine grs ?_ | refine grc ?_)
     | (refine kR ?_; refine gr rfl (rvC rfl (lvb rfl rfl) (rvT rfl rv0)) (_, _) rfl Ent.nil ?_)
     | (refine kR ?_; refine gr rfl (rvC rfl (lvB rfl rfl rfl) (rvT rfl rv0)) (_, _) rfl Ent.nil ?_)
     | (refine Pre.mk ?_; first | exact True.intro | omega | ((repeat' (first | refine And.intro ?_ ?_ | exact True.intro | assumption | omega)); done) | (simp only [and_true, true_and, or_true, true_or]; first | done | omega))
     | (refine kD ?_; first | exact dm_none))
    all_goals first | (exfalso; omega) | (rw [e1]; exact ⟨rfl, rfl⟩)
instance c_tx_Id {insA : Option Addr} {insc insn : Nat} {ins : List InG} {outsA : Option Addr} {outsc outsn : Nat} {outs : List OutG} {after : Int} {w0 : World} {X : Nat → Prop} {L : List Assn} [hK : KR w0 X L] [hins : Rw w0 X L (.slice insA insn insc) RIn ins] [q_ins : InsR w0 X L ins] [houts : Rw w0 X L (.slice outsA outsn outsc) ROut outs] [q_outs : OutsR w0 X L outs] : Ctr Tryd.prog 20 [Ag [.one (.slice insA insn insc), .one (.slice outsA outsn outsc), .one (.int .u32 after)]] w0 X L ((0 ≤ after ∧ after ≤ 4294967295) ∧ InsN ins ∧ OutsN outs) (fun _ : Unit => .tuple #[Ag [.blk 32 (RB.all (idH ins outs after).l)], .int .i64 (txE ins outs after)]) (fun _ : Unit => L) (fun _ : Unit => True) :=
  ctr' (M' := (fun _ : Unit => [])) (by kernel_rfl) (fun hp w hw => by have eins := hins.len hw; subst eins; have eouts := houts.len hw; subst eouts; exact tx_Id _ _ _ _ _ _ _ w (hK.get w hw) (hins.get w hw) (q_ins.get w hw) (houts.get w hw) (q_outs.get w hw) hp) (by rintro hp ⟨e0, e1⟩ ⟨rfl, rfl⟩ ok; exact ⟨(), rfl, rfl, trivial⟩)
theorem ref07_Id (insA : Option Addr) (insc : Nat) (ins : List InG) (outsA : Option Addr) (outsc : Nat) (outs : List OutG) (after : Int) (w0 : World) (hins : Slr w0 RIn (.slice insA ins.length insc) ins) (q_ins : InsP w0 ins) (houts : Slr w0 ROut (.slice outsA outs.length outsc) outs) (q_outs : OutsP w0 outs) (hp : (0 ≤ after ∧ after ≤ 4294967295) ∧ InsN ins ∧ OutsN outs) :
    Ct Tryd.prog 21 [Ag [.one (.slice insA ins.length insc), .one (.slice outsA outs.length outsc), .one (.int .u32 after)]] w0 no (fun ((e0, e1) : List UInt8 × Int) => .tuple #[Ag [.blk 32 (RB.all e0)], .int .i64 e1]) (fun (e0, e1) => []) (fun (e0, e1) => e0 = (idH ins outs after).l ∧ e1 = txE ins outs after) := by
  have hst := St.start w0
  have i_ins := Rw.old hins
  have j_ins := InsR.old q_ins
  have i_outs := Rw.old houts
  have j_outs := OutsR.old q_outs
  refine genter _ hst Tryd.func21 rfl rfl rfl rfl ?_
  obtain ⟨hp1, hn1, hn2⟩ := hp
  by_cases hm : TxMay ins outs after
  · obtain ⟨m1, m2, m3, m4, m5⟩ := hm
    have hm : TxMay ins outs after := ⟨m1, m2, m3, m4, m5⟩
    have e1 : txE ins outs after = 0 := if_pos hm
    have e3 : idH ins outs after = sha2 (txB ins outs after) := if_pos hm
    rw [e1, e3]
    repeat' (first
     | (refine kO ?_; first | refine gba0 rfl rfl rfl ?_ | refine gv rfl rfl ?_ | refine gnil ?_ | refine gl rfl (lvb rfl rfl) rfl (fun _ => ?_) | refine gl rfl (lvB rfl rfl rfl) rfl (fun _ => ?_) | refine gl rfl (lve rfl rfl) rfl (fun _ => ?_) | refine gl rfl (lvE rfl rfl rfl) rfl (fun _ => ?_) | refine gl rfl (lva rfl rfl rfl rfl rfl) rfl (fun _ => ?_) | (refine kK ?_; first | refine gcall rfl ?_ rfl (fun _ _ => ?_) (fun _ _ => ?_) | refine gcv rfl rfl ?_ rfl (fun _ _ => ?_) (fun _ _ => ?_)) | refine gbu rfl rfl rfl rfl rfl ?_ | refine gx rfl rfl (fun _ => ?_) (fun _ => ?_) | refine ga rfl (fun _ => ?_) (fun _ => ?_) | refine gst rfl rfl rfl rfl ?_ ?_ | refine ge rfl rfl rfl rfl ?_ ?_ | refine gea rfl rfl rfl rfl rfl rfl rfl ?_ ?_)
     | (refine kC ?_; first | refine gseq ?_ | refine greg ?_ | refine gret ?_ | refine gskip ?_ | (refine gcond rfl (fun h => ?_) (fun h => ?_) <;> (first | exact h.elim | (exfalso; omega) | skip)))
     | (refine kN ?_; first | refine gthen ?_)
     | (refine kR ?_; first | refine grs ?_ | refine grc ?_)
     | (refine kR ?_; refine gr rfl (rvC rfl (lvb rfl rfl) (rvT rfl rv0)) (_, _) rfl Ent.nil ?_)
     | (refine kR ?_; refine gr rfl (rvC rfl (lvB rfl rfl rfl) (rvT rfl rv0)) (_, _) rfl Ent.nil ?_)
     | (refine Pre.mk ?_; first | exact True.intro | omega | ((repeat' (first | refine And.intro ?_ ?_ | exact True.intro | assumption | omega)); done) | (simp only [and_true, true_and, or_true, true_or]; first | done | omega))
     | (refine kD ?_; first | exact dm_none))
    all_goals first | contradiction | exact ⟨rfl, rfl⟩
  · have e1 : txE ins outs after = 2 := if_neg hm
    have e3 : idH ins outs after = zH := if_neg hm
    rw [e1, e3]
    repeat' (first
     | (refine kO ?_; first | refine gba0 rfl rfl rfl ?_ | refine gv rfl rfl ?_ | refine gnil ?_ | refine gl rfl (lvb rfl rfl) rfl (fun _ => ?_) | refine gl rfl (lvB rfl rfl rfl) rfl (fun _ => ?_) | refine gl rfl (lve rfl rfl) rfl (fun _ => ?_) | refine gl rfl (lvE rfl rfl rfl) rfl (fun _ => ?_) | refine gl rfl (lva rfl rfl rfl rfl rfl) rfl (fun _ => ?_) | (refine kK ?_; first | refine gcall rfl ?_ rfl (fun _ _ => ?_) (fun _ _ => ?_) | refine gcv rfl rfl ?_ rfl (fun _ _ => ?_) (fun _ _ => ?_)) | refine gbu rfl rfl rfl rfl rfl ?_ | refine gx rfl rfl (fun _ => ?_) (fun _ => ?_) | refine ga rfl (fun _ => ?_) (fun _ => ?_) | refine gst rfl rfl rfl rfl ?_ ?_ | refine ge rfl rfl rfl rfl ?_ ?_ | refine gea rfl rfl rfl rfl rfl rfl rfl ?_ ?_)
     | (refine kC ?_; first | refine gseq ?_ | refine greg ?_ | refine gret ?_ | refine gskip ?_ | (refine gcond rfl (fun h => ?_) (fun h => ?_) <;> (first | exact h.elim | (exfalso; omega) | skip)))
     | (refine kN ?_; first | refine gthen ?_)
     | (refine kR ?_; first | refine grs ?_ | refine grc ?_)
     | (refine kR ?_; refine gr rfl (rvC rfl (lvb rfl rfl) (rvT rfl rv0)) (_, _) rfl Ent.nil ?_)
     | (refine kR ?_; refine gr rfl (rvC rfl (lvB rfl rfl rfl) (rvT rfl rv0)) (_, _) rfl Ent.nil ?_)
     | (refine Pre.mk ?_; first | exact True.intro | omega | ((repeat' (first | refine And.intro ?_ ?_ | exact True.intro | assumption | omega)); done) | (simp only [and_true, true_and, or_true, true_or]; first | done | omega))
     | (refine kD ?_; first | exact dm_none))
    all_goals first | contradiction | exact ⟨rfl, rfl⟩
instance c_ref07_Id {insA : Option Addr} {insc insn : Nat} {ins : List InG} {outsA : Option Addr} {outsc outsn : Nat} {outs : List OutG} {after : Int} {w0 : World} {X : Nat → Prop} {L : List Assn} [hins : Rw w0 X L (.slice insA insn insc) RIn ins] [q_ins : InsR w0 X L ins] [houts : Rw w0 X L (.slice outsA outsn outsc) ROut outs] [q_outs : OutsR w0 X L outs] : Ctr Tryd.prog 21 [Ag [.one (.slice insA insn insc), .one (.slice outsA outsn outsc), .one (.int .u32 after)]] w0 X L ((0 ≤ after ∧ after ≤ 4294967295) ∧ InsN ins ∧ OutsN outs) (fun _ : Unit => .tuple #[Ag [.blk 32 (RB.all (idH ins outs after).l)], .int .i64 (txE ins outs after)]) (fun _ : Unit => L) (fun _ : Unit => True) :=
  ctr' (M' := (fun _ : Unit => [])) (by kernel_rfl) (fun hp w hw => by have eins := hins.len hw; subst eins; have eouts := houts.len hw; subst eouts; exact ref07_Id _ _ _ _ _ _ _ w (hins.get w hw) (q_ins.get w hw) (houts.get w hw) (q_outs.get w hw) hp) (by rintro hp ⟨e0, e1⟩ ⟨rfl, rfl⟩ ok; exact ⟨(), rfl, rfl, trivial⟩)
end Go.Proofs.YtdbikdbogpofbaaDoor
