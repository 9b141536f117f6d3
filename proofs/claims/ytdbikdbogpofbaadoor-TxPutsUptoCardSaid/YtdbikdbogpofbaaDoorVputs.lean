/-
  TxPuts: its walk.
-/
import Derived.Test.YtdbikdbogpofbaaDoorVref07D
import Derived.Test.YtdbikdbogpofbaaDoorVgreat
set_option linter.all false
set_option maxRecDepth 100000
set_option synthInstance.maxHeartbeats 1000000
set_option synthInstance.maxSize 4000
set_option maxHeartbeats 4000000
namespace Go.Proofs.YtdbikdbogpofbaaDoor
open Go.RowKit
theorem txPuts_ok (insA : Option Addr) (insc : Nat) (ins : List InG) (outsA : Option Addr) (outsc : Nat) (outs : List OutG) (after : Int) (k : Int) (tx : List UInt8) [htx : LenIs tx 32] (m : Int) (ht : Int) (v : Int) (base : Bool) (lockA : Option Addr) (lockc : Nat) (lock : List UInt8) (w0 : World) (hK : KOk w0) (hins : Slr w0 RIn (.slice insA ins.length insc) ins) (q_ins : InsP w0 ins) (houts : Slr w0 ROut (.slice outsA outs.length outsc) outs) (q_outs : OutsP w0 outs) (hlock : Slr w0 RB (.slice lockA lock.length lockc) lock) (hp : (ins.length ≤ 1048576 ∧ outs.length ≤ 1048576 ∧ sumI ins ≤ 1048576 ∧ sumO outs ≤ 1048576) ∧ (0 ≤ after ∧ after ≤ 4294967295) ∧ InsN ins ∧ OutsN outs ∧ (0 ≤ m ∧ m ≤ 65535 ∧ 0 ≤ ht ∧ ht ≤ 4294967295 ∧ 0 ≤ v ∧ v ≤ 18446744073709551615)) :
    Ct Tryd.prog 5 [Ag [.one (.slice insA ins.length insc), .one (.slice outsA outs.length outsc), .one (.int .u32 after)], .int .i64 k, Ag [.blk 32 (RB.all tx), .one (.int .u16 m), .one (.int .u32 ht), .one (.int .u64 v), .one (.bool base), .one (.slice lockA lock.length lockc)]] w0 no (fun ((e0) : Bool) => .bool e0) (fun (e0) => []) (fun (e0) => e0 = true) := by
  have hst := St.start w0
  have j_hK := KR.old hK
  have i_ins := Rw.old hins
  have j_ins := InsR.old q_ins
  have i_outs := Rw.old houts
  have j_outs := OutsR.old q_outs
  have i_lock := Rw.old hlock
  refine genter _ hst Tryd.func5 rfl rfl rfl rfl ?_
  obtain ⟨⟨b1, b2, b3, b4⟩, hp1, hn1, hn2, hp2⟩ := hp
  repeat' (first
   | (refine kO ?_; first | refine gv rfl rfl ?_ | refine gnil ?_ | refine gnilD ?_ | refine gl rfl (lvb rfl rfl) rfl (fun _ => ?_) | refine gl rfl (lvB rfl rfl rfl) rfl (fun _ => ?_) | refine gl rfl (lve rfl rfl) rfl (fun _ => ?_) | refine gl rfl (lvE rfl rfl rfl) rfl (fun _ => ?_) | refine gl rfl (lva rfl rfl rfl rfl rfl) rfl (fun _ => ?_) | refine gp rfl (by (try simp only [InR]); omega) rfl ?_ | (refine kK ?_; first | refine gcall rfl ?_ rfl (fun _ _ => ?_) (fun _ _ => ?_) | refine gcv rfl rfl ?_ rfl (fun _ _ => ?_) (fun _ _ => ?_)) | refine geql rfl rfl (by kernel_rfl) ?_ rfl ?_ | refine gx rfl rfl (fun _ => ?_) (fun _ => ?_) | refine ga rfl (fun _ => ?_) (fun _ => ?_) | refine gst rfl rfl rfl rfl ?_ ?_ | refine ge rfl rfl rfl rfl ?_ ?_ | refine gea rfl rfl rfl rfl rfl rfl rfl ?_ ?_ | (refine kg ?_; (first | refine guardT rfl rfl rfl rfl (fun h => ?_) (fun h => ?_) | refine guardF rfl rfl rfl rfl (fun h => ?_) (fun h => ?_) | refine guardU rfl rfl rfl rfl ?_ | refine guardTH rfl rfl rfl rfl ?_ (fun h => ?_) (fun h => ?_) | refine guardFH rfl rfl rfl rfl ?_ (fun h => ?_) (fun h => ?_) | refine guardUH rfl rfl rfl rfl ?_ ?_) <;> (first | exact h.elim | (exfalso; omega) | exact absurd h (by assumption) | exact absurd (by assumption) h | skip)))
   | (refine kC ?_; first | refine gseq ?_ | refine greg ?_ | refine gret ?_ | refine gskip ?_ | refine gdraw (id := 9) [0,1,2,3,4,5,6,7,8,9,10,11,12,13,14,15,16,17,18,19,20,21,22,23,24,25,26,27,28,29,31,30,32,33,34,35,36,37,38] (by kernel_rfl) (by kernel_rfl) rfl ?_ | (refine gcond rfl (fun h => ?_) (fun h => ?_) <;> (first | exact h.elim | (exfalso; omega) | exact absurd h (by assumption) | exact absurd (by assumption) h | skip)))
   | (refine kN ?_; first | refine gthen ?_)
   | (refine kR ?_; first | refine grs ?_ | refine grc ?_)
   | (refine kR ?_; refine gr rfl (rvT rfl rv0) (_) rfl Ent.nil ?_)
   | (refine Pre.mk ?_; first | exact True.intro | omega | ((repeat' (first | refine And.intro ?_ ?_ | exact True.intro | assumption | omega)); done) | (simp only [and_true, true_and, or_true, true_or]; first | done | omega))
   | (refine kD ?_; first | exact dm_none | exact dm0 | refine dmOff rfl ?_ | refine dmOn (lvb rfl rfl) ?_ | refine dmOn (lvB rfl rfl rfl) ?_ | refine dmOn (lve rfl rfl) ?_ | refine dmOn (lvE rfl rfl rfl) ?_ | refine dmOn (lva rfl rfl rfl rfl rfl) ?_))
  all_goals first | rfl | contradiction | (exfalso; omega) | (exfalso; grind) | skip
instance c_txPuts_ok {insA : Option Addr} {insc insn : Nat} {ins : List InG} {outsA : Option Addr} {outsc outsn : Nat} {outs : List OutG} {after : Int} {k : Int} {tx : List UInt8} {m : Int} {ht : Int} {v : Int} {base : Bool} {lockA : Option Addr} {lockc lockn : Nat} {lock : List UInt8} {w0 : World} {X : Nat → Prop} {L : List Assn} [hK : KR w0 X L] [hins : Rw w0 X L (.slice insA insn insc) RIn ins] [q_ins : InsR w0 X L ins] [houts : Rw w0 X L (.slice outsA outsn outsc) ROut outs] [q_outs : OutsR w0 X L outs] [htx : LenIs tx 32] [hlock : Rw w0 X L (.slice lockA lockn lockc) RB lock] : Ctr Tryd.prog 5 [Ag [.one (.slice insA insn insc), .one (.slice outsA outsn outsc), .one (.int .u32 after)], .int .i64 k, Ag [.blk 32 (RB.all tx), .one (.int .u16 m), .one (.int .u32 ht), .one (.int .u64 v), .one (.bool base), .one (.slice lockA lockn lockc)]] w0 X L ((ins.length ≤ 1048576 ∧ outs.length ≤ 1048576 ∧ sumI ins ≤ 1048576 ∧ sumO outs ≤ 1048576) ∧ (0 ≤ after ∧ after ≤ 4294967295) ∧ InsN ins ∧ OutsN outs ∧ (0 ≤ m ∧ m ≤ 65535 ∧ 0 ≤ ht ∧ ht ≤ 4294967295 ∧ 0 ≤ v ∧ v ≤ 18446744073709551615)) (fun _ : Unit => .bool (true)) (fun _ : Unit => L) (fun _ : Unit => True) :=
  ctr' (M' := (fun _ : Unit => [])) (by kernel_rfl) (fun hp w hw => by have eins := hins.len hw; subst eins; have eouts := houts.len hw; subst eouts; have elock := hlock.len hw; subst elock; exact txPuts_ok _ _ _ _ _ _ _ _ _ _ _ _ _ _ _ _ w (hK.get w hw) (hins.get w hw) (q_ins.get w hw) (houts.get w hw) (q_outs.get w hw) (hlock.get w hw) hp) (by rintro hp e0 rfl ok; exact ⟨(), rfl, rfl, trivial⟩)
end Go.Proofs.YtdbikdbogpofbaaDoor
