/-
  moneyerref07: contracts.
-/
import Derived.Test.YtdbikdbogpofbaaDoorVref06
import Derived.Test.YtdbikdbogpofbaaDoorVtxP
import Derived.Test.YtdbikdbogpofbaaDoorVlib
set_option linter.all false
set_option maxRecDepth 100000
set_option maxHeartbeats 4000000
namespace Go.Proofs.YtdbikdbogpofbaaDoor
open Go.RowKit

theorem ref07_bytes (insA : Option Addr) (insc : Nat) (ins : List InG) (outsA : Option Addr) (outsc : Nat) (outs : List OutG) (after : Int) (w0 : World) (hins : Slr w0 RIn (.slice insA ins.length insc) ins) (q_ins : InsP w0 ins) (houts : Slr w0 ROut (.slice outsA outs.length outsc) outs) (q_outs : OutsP w0 outs) (hp : (ins.length ≤ 16 ∧ outs.length ≤ 16 ∧ 0 ≤ after ∧ after ≤ 4294967295) ∧ InsOk ins ∧ OutsOk outs ∧ InsN ins ∧ OutsN outs) :
    Ct Tryd.prog 40 [Ag [.one (.slice insA ins.length insc), .one (.slice outsA outs.length outsc), .one (.int .u32 after)]] w0 no (fun ((⟨s0, n0, x0⟩) : Br UInt8) => .slice s0.A n0 s0.c) (fun (⟨s0, n0, x0⟩) => [rw_ 5 RB s0 n0 x0]) (fun (⟨s0, n0, x0⟩) => x0 = (txB ins outs after)) := by
  have hst := St.start w0
  have i_ins := Rw.old hins
  have j_ins := InsR.old q_ins
  have i_outs := Rw.old houts
  have j_outs := OutsR.old q_outs
  refine genter _ hst Tryd.func40 rfl rfl rfl rfl ?_
  obtain ⟨hp1, hp2, hp3, hn1, hn2⟩ := hp
  repeat' (first
   | (refine kO ?_; first | refine gv rfl rfl ?_ | refine gnil ?_ | refine gnilD ?_ | refine gl rfl (lvb rfl rfl) rfl (fun _ => ?_) | refine gl rfl (lvB rfl rfl rfl) rfl (fun _ => ?_) | refine gl rfl (lve rfl rfl) rfl (fun _ => ?_) | refine gl rfl (lvE rfl rfl rfl) rfl (fun _ => ?_) | refine gl rfl (lva rfl rfl rfl rfl rfl) rfl (fun _ => ?_) | refine gp rfl (by (try simp only [InR]); omega) rfl ?_ | refine gf rfl rfl rfl ?_ | refine gix rfl rfl rfl rfl (by omega) rfl (fun _ => ?_) | refine gixa rfl rfl rfl rfl (by omega) rfl (fun _ => ?_) | (refine kK ?_; first | refine gcall rfl ?_ rfl (fun _ _ => ?_) (fun _ _ => ?_) | refine gcv rfl rfl ?_ rfl (fun _ _ => ?_) (fun _ _ => ?_)) | refine gx rfl rfl (fun _ => ?_) (fun _ => ?_) | refine gap rfl rfl rfl (by omega) rfl (fun _ => ?_) (fun _ => ?_) | refine gan rfl rfl rfl (by omega) rfl (fun _ => ?_) (fun _ => ?_) | refine gapz rfl rfl rfl rfl (by omega) rfl (fun _ => ?_) (fun _ => ?_) | refine gb rfl rfl rfl rfl ?_ | refine gw rfl rfl ?_)
   | (refine kC ?_; first | refine gseq ?_ | refine greg ?_ | refine gret ?_ | refine gskip ?_ | refine gdraw (id := 5) [0,1,2,3,4,5,6,9,10,11,12,13,14,7,8,15,16,17] (by kernel_rfl) (by kernel_rfl) rfl ?_ | (refine gcond rfl (fun h => ?_) (fun h => ?_) <;> (first | exact h.elim | (exfalso; omega) | skip)) | refine gblk ?_ | refine gexit ?_)
   | (refine kN ?_; first | refine gthen ?_ | refine gnblk ?_)
   | (refine kR ?_; first | refine grs ?_ | refine grb ?_ | refine grl ?_ | refine grc ?_)
   | (refine kX ?_; first | refine gxs ?_ | refine gxb ?_ | refine gxn rfl ?_ | refine gxl ?_ | refine gxc ?_)
   | (refine kR ?_; refine gr rfl (rvT rfl rv0) (⟨_, _, _⟩) rfl (er Ent.nil) ?_)
   | (refine kR ?_; refine gr rfl (rvT rfl rv0) (⟨⟨none, 0⟩, 0, []⟩) rfl (er0 Ent.nil) ?_)
   | (refine Pre.mk ?_; first | exact True.intro | omega | ((repeat' (first | refine And.intro ?_ ?_ | assumption | omega)); done))
   | (refine kD ?_; first | exact dm_none | exact dm0 | refine dmOff rfl ?_ | refine dmOn (lvb rfl rfl) ?_ | refine dmOn (lvB rfl rfl rfl) ?_ | refine dmOn (lve rfl rfl) ?_ | refine dmOn (lvE rfl rfl rfl) ?_ | refine dmOn (lva rfl rfl rfl rfl rfl) ?_))
  rename_i g _ s _
  refine gloop3 [1] (fun (i : Nat) (s : Sv) (n : Nat) K => (3, .slice s.A n s.c) :: (4, .int .i64 i) :: K) (fun i s n => [rw_ 5 RB s n (countS ins.length ++ insB (ins.take i)), boxA g 27 [.one (.slice insA ins.length insc), .one (.slice outsA outs.length outsc), .one (.int .u32 after)]]) (fun i s n => i ≤ ins.length ∧ n = (countS ins.length).length + (insB (ins.take i)).length) (fun i s n => ins.length - i) 0 s _ rfl (by repeat (first | exact trivial | refine ⟨rfl, ?_⟩)) (by simp only [insB, List.take_zero, List.flatMap_nil, List.append_nil]; exact er (eb Ent.nil)) (by simp [insB]) (fun i s n hi => ?_)
  have hl := insB_len hp2 hn1 i (by omega)
  have hc := countS_b ins.length
  by_cases hlt : i < ins.length
  · have hg := hn1 (ixd ins i) (ixd_mem ⟨by omega⟩ rfl)
    have hu := hp2 (ixd ins i) (ixd_mem ⟨by omega⟩ rfl)
    repeat' (first
     | (refine kO ?_; first | refine gv rfl rfl ?_ | refine gnil ?_ | refine gnilD ?_ | refine gl rfl (lvb rfl rfl) rfl (fun _ => ?_) | refine gl rfl (lvB rfl rfl rfl) rfl (fun _ => ?_) | refine gl rfl (lve rfl rfl) rfl (fun _ => ?_) | refine gl rfl (lvE rfl rfl rfl) rfl (fun _ => ?_) | refine gl rfl (lva rfl rfl rfl rfl rfl) rfl (fun _ => ?_) | refine gp rfl (by (try simp only [InR]); omega) rfl ?_ | refine gf rfl rfl rfl ?_ | refine gix rfl rfl rfl rfl (by omega) rfl (fun _ => ?_) | refine gixa rfl rfl rfl rfl (by omega) rfl (fun _ => ?_) | (refine kK ?_; first | refine gcall rfl ?_ rfl (fun _ _ => ?_) (fun _ _ => ?_) | refine gcv rfl rfl ?_ rfl (fun _ _ => ?_) (fun _ _ => ?_)) | refine gx rfl rfl (fun _ => ?_) (fun _ => ?_) | refine gap rfl rfl rfl (by omega) rfl (fun _ => ?_) (fun _ => ?_) | refine gan rfl rfl rfl (by omega) rfl (fun _ => ?_) (fun _ => ?_) | refine gapz rfl rfl rfl rfl (by omega) rfl (fun _ => ?_) (fun _ => ?_) | refine gb rfl rfl rfl rfl ?_ | refine gw rfl rfl ?_)
     | (refine kC ?_; first | refine gseq ?_ | refine greg ?_ | refine gret ?_ | refine gskip ?_ | refine gdraw (id := 5) [0,1,2,3,4,5,6,9,10,11,12,13,14,7,8,15,16,17] (by kernel_rfl) (by kernel_rfl) rfl ?_ | (refine gcond rfl (fun h => ?_) (fun h => ?_) <;> (first | exact h.elim | (exfalso; omega) | skip)) | refine gblk ?_ | refine gexit ?_)
     | (refine kN ?_; first | refine gthen ?_ | refine gnblk ?_)
     | (refine kR ?_; first | refine grs ?_ | refine grb ?_ | refine grl ?_ | refine grc ?_)
     | (refine kX ?_; first | refine gxs ?_ | refine gxb ?_ | refine gxn rfl ?_ | refine gxl ?_ | refine gxc ?_)
     | (refine kR ?_; refine gr rfl (rvT rfl rv0) (⟨_, _, _⟩) rfl (er Ent.nil) ?_)
     | (refine kR ?_; refine gr rfl (rvT rfl rv0) (⟨⟨none, 0⟩, 0, []⟩) rfl (er0 Ent.nil) ?_)
     | (refine Pre.mk ?_; first | exact True.intro | omega | ((repeat' (first | refine And.intro ?_ ?_ | assumption | omega)); done))
     | (refine kD ?_; first | exact dm_none | exact dm0 | refine dmOff rfl ?_ | refine dmOn (lvb rfl rfl) ?_ | refine dmOn (lvB rfl rfl rfl) ?_ | refine dmOn (lve rfl rfl) ?_ | refine dmOn (lvE rfl rfl rfl) ?_ | refine dmOn (lva rfl rfl rfl rfl rfl) ?_))
    rename_i s'
    refine gnl3 (i + 1) s' _ (by repeat (first | exact trivial | refine ⟨rfl, ?_⟩)) ?_ ?_ (by omega)
    · rw [insB_step hlt]; simp only [← List.append_assoc]; exact er (eb Ent.nil)
    · rw [insB_step hlt]; simp only [List.length_append]; omega
  · obtain rfl : i = ins.length := by omega
    rw [List.take_length] at hi hl ⊢
    repeat' (first
     | (refine kO ?_; first | refine gv rfl rfl ?_ | refine gnil ?_ | refine gnilD ?_ | refine gl rfl (lvb rfl rfl) rfl (fun _ => ?_) | refine gl rfl (lvB rfl rfl rfl) rfl (fun _ => ?_) | refine gl rfl (lve rfl rfl) rfl (fun _ => ?_) | refine gl rfl (lvE rfl rfl rfl) rfl (fun _ => ?_) | refine gl rfl (lva rfl rfl rfl rfl rfl) rfl (fun _ => ?_) | refine gp rfl (by (try simp only [InR]); omega) rfl ?_ | refine gf rfl rfl rfl ?_ | refine gix rfl rfl rfl rfl (by omega) rfl (fun _ => ?_) | refine gixa rfl rfl rfl rfl (by omega) rfl (fun _ => ?_) | (refine kK ?_; first | refine gcall rfl ?_ rfl (fun _ _ => ?_) (fun _ _ => ?_) | refine gcv rfl rfl ?_ rfl (fun _ _ => ?_) (fun _ _ => ?_)) | refine gx rfl rfl (fun _ => ?_) (fun _ => ?_) | refine gap rfl rfl rfl (by omega) rfl (fun _ => ?_) (fun _ => ?_) | refine gan rfl rfl rfl (by omega) rfl (fun _ => ?_) (fun _ => ?_) | refine gapz rfl rfl rfl rfl (by omega) rfl (fun _ => ?_) (fun _ => ?_) | refine gb rfl rfl rfl rfl ?_ | refine gw rfl rfl ?_)
     | (refine kC ?_; first | refine gseq ?_ | refine greg ?_ | refine gret ?_ | refine gskip ?_ | refine gdraw (id := 5) [0,1,2,3,4,5,6,9,10,11,12,13,14,7,8,15,16,17] (by kernel_rfl) (by kernel_rfl) rfl ?_ | (refine gcond rfl (fun h => ?_) (fun h => ?_) <;> (first | exact h.elim | (exfalso; omega) | skip)) | refine gblk ?_ | refine gexit ?_)
     | (refine kN ?_; first | refine gthen ?_ | refine gnblk ?_)
     | (refine kR ?_; first | refine grs ?_ | refine grb ?_ | refine grl ?_ | refine grc ?_)
     | (refine kX ?_; first | refine gxs ?_ | refine gxb ?_ | refine gxn rfl ?_ | refine gxl ?_ | refine gxc ?_)
     | (refine kR ?_; refine gr rfl (rvT rfl rv0) (⟨_, _, _⟩) rfl (er Ent.nil) ?_)
     | (refine kR ?_; refine gr rfl (rvT rfl rv0) (⟨⟨none, 0⟩, 0, []⟩) rfl (er0 Ent.nil) ?_)
     | (refine Pre.mk ?_; first | exact True.intro | omega | ((repeat' (first | refine And.intro ?_ ?_ | assumption | omega)); done))
     | (refine kD ?_; first | exact dm_none | exact dm0 | refine dmOff rfl ?_ | refine dmOn (lvb rfl rfl) ?_ | refine dmOn (lvB rfl rfl rfl) ?_ | refine dmOn (lve rfl rfl) ?_ | refine dmOn (lvE rfl rfl rfl) ?_ | refine dmOn (lva rfl rfl rfl rfl rfl) ?_))
    rename_i s
    refine gloop3 [1] (fun (i : Nat) (s : Sv) (n : Nat) K => (3, .slice s.A n s.c) :: (5, .int .i64 i) :: K) (fun i s n => [rw_ 5 RB s n (countS ins.length ++ insB ins ++ countS outs.length ++ outsB (outs.take i)), boxA g 27 [.one (.slice insA ins.length insc), .one (.slice outsA outs.length outsc), .one (.int .u32 after)]]) (fun i s n => i ≤ outs.length ∧ n = (countS ins.length).length + (insB ins).length + (countS outs.length).length + (outsB (outs.take i)).length) (fun i s n => outs.length - i) 0 s _ rfl (by repeat (first | exact trivial | refine ⟨rfl, ?_⟩)) (by simp only [outsB, List.take_zero, List.flatMap_nil, List.append_nil]; exact er (eb Ent.nil)) (by simp [outsB]; omega) (fun i s n hi => ?_)
    have hl2 := outsB_len hp3 hn2 i (by omega)
    by_cases hlt : i < outs.length
    · have hg := hn2 (ixd outs i) (ixd_mem ⟨by omega⟩ rfl)
      have hu := hp3 (ixd outs i) (ixd_mem ⟨by omega⟩ rfl)
      repeat' (first
       | (refine kO ?_; first | refine gv rfl rfl ?_ | refine gnil ?_ | refine gnilD ?_ | refine gl rfl (lvb rfl rfl) rfl (fun _ => ?_) | refine gl rfl (lvB rfl rfl rfl) rfl (fun _ => ?_) | refine gl rfl (lve rfl rfl) rfl (fun _ => ?_) | refine gl rfl (lvE rfl rfl rfl) rfl (fun _ => ?_) | refine gl rfl (lva rfl rfl rfl rfl rfl) rfl (fun _ => ?_) | refine gp rfl (by (try simp only [InR]); omega) rfl ?_ | refine gf rfl rfl rfl ?_ | refine gix rfl rfl rfl rfl (by omega) rfl (fun _ => ?_) | refine gixa rfl rfl rfl rfl (by omega) rfl (fun _ => ?_) | (refine kK ?_; first | refine gcall rfl ?_ rfl (fun _ _ => ?_) (fun _ _ => ?_) | refine gcv rfl rfl ?_ rfl (fun _ _ => ?_) (fun _ _ => ?_)) | refine gx rfl rfl (fun _ => ?_) (fun _ => ?_) | refine gap rfl rfl rfl (by omega) rfl (fun _ => ?_) (fun _ => ?_) | refine gan rfl rfl rfl (by omega) rfl (fun _ => ?_) (fun _ => ?_) | refine gapz rfl rfl rfl rfl (by omega) rfl (fun _ => ?_) (fun _ => ?_) | refine gb rfl rfl rfl rfl ?_ | refine gw rfl rfl ?_)
       | (refine kC ?_; first | refine gseq ?_ | refine greg ?_ | refine gret ?_ | refine gskip ?_ | refine gdraw (id := 5) [0,1,2,3,4,5,6,9,10,11,12,13,14,7,8,15,16,17] (by kernel_rfl) (by kernel_rfl) rfl ?_ | (refine gcond rfl (fun h => ?_) (fun h => ?_) <;> (first | exact h.elim | (exfalso; omega) | skip)) | refine gblk ?_ | refine gexit ?_)
       | (refine kN ?_; first | refine gthen ?_ | refine gnblk ?_)
       | (refine kR ?_; first | refine grs ?_ | refine grb ?_ | refine grl ?_ | refine grc ?_)
       | (refine kX ?_; first | refine gxs ?_ | refine gxb ?_ | refine gxn rfl ?_ | refine gxl ?_ | refine gxc ?_)
       | (refine kR ?_; refine gr rfl (rvT rfl rv0) (⟨_, _, _⟩) rfl (er Ent.nil) ?_)
       | (refine kR ?_; refine gr rfl (rvT rfl rv0) (⟨⟨none, 0⟩, 0, []⟩) rfl (er0 Ent.nil) ?_)
       | (refine Pre.mk ?_; first | exact True.intro | omega | ((repeat' (first | refine And.intro ?_ ?_ | assumption | omega)); done))
       | (refine kD ?_; first | exact dm_none | exact dm0 | refine dmOff rfl ?_ | refine dmOn (lvb rfl rfl) ?_ | refine dmOn (lvB rfl rfl rfl) ?_ | refine dmOn (lve rfl rfl) ?_ | refine dmOn (lvE rfl rfl rfl) ?_ | refine dmOn (lva rfl rfl rfl rfl rfl) ?_))
      rename_i s'
      refine gnl3 (i + 1) s' _ (by repeat (first | exact trivial | refine ⟨rfl, ?_⟩)) ?_ ?_ (by omega)
      · rw [outsB_step hlt]; simp only [← List.append_assoc]; exact er (eb Ent.nil)
      · rw [outsB_step hlt]; simp only [List.length_append]; omega
    · obtain rfl : i = outs.length := by omega
      rw [List.take_length] at hi hl2 ⊢
      have hq := putL_len (n := after) (k := 4) ⟨by omega, by omega⟩
      repeat' (first
       | (refine kO ?_; first | refine gv rfl rfl ?_ | refine gnil ?_ | refine gnilD ?_ | refine gl rfl (lvb rfl rfl) rfl (fun _ => ?_) | refine gl rfl (lvB rfl rfl rfl) rfl (fun _ => ?_) | refine gl rfl (lve rfl rfl) rfl (fun _ => ?_) | refine gl rfl (lvE rfl rfl rfl) rfl (fun _ => ?_) | refine gl rfl (lva rfl rfl rfl rfl rfl) rfl (fun _ => ?_) | refine gp rfl (by (try simp only [InR]); omega) rfl ?_ | refine gf rfl rfl rfl ?_ | refine gix rfl rfl rfl rfl (by omega) rfl (fun _ => ?_) | refine gixa rfl rfl rfl rfl (by omega) rfl (fun _ => ?_) | (refine kK ?_; first | refine gcall rfl ?_ rfl (fun _ _ => ?_) (fun _ _ => ?_) | refine gcv rfl rfl ?_ rfl (fun _ _ => ?_) (fun _ _ => ?_)) | refine gx rfl rfl (fun _ => ?_) (fun _ => ?_) | refine gap rfl rfl rfl (by omega) rfl (fun _ => ?_) (fun _ => ?_) | refine gan rfl rfl rfl (by omega) rfl (fun _ => ?_) (fun _ => ?_) | refine gapz rfl rfl rfl rfl (by omega) rfl (fun _ => ?_) (fun _ => ?_) | refine gb rfl rfl rfl rfl ?_ | refine gw rfl rfl ?_)
       | (refine kC ?_; first | refine gseq ?_ | refine greg ?_ | refine gret ?_ | refine gskip ?_ | refine gdraw (id := 5) [0,1,2,3,4,5,6,9,10,11,12,13,14,7,8,15,16,17] (by kernel_rfl) (by kernel_rfl) rfl ?_ | (refine gcond rfl (fun h => ?_) (fun h => ?_) <;> (first | exact h.elim | (exfalso; omega) | skip)) | refine gblk ?_ | refine gexit ?_)
       | (refine kN ?_; first | refine gthen ?_ | refine gnblk ?_)
       | (refine kR ?_; first | refine grs ?_ | refine grb ?_ | refine grl ?_ | refine grc ?_)
       | (refine kX ?_; first | refine gxs ?_ | refine gxb ?_ | refine gxn rfl ?_ | refine gxl ?_ | refine gxc ?_)
       | (refine kR ?_; refine gr rfl (rvT rfl rv0) (⟨_, _, _⟩) rfl (er Ent.nil) ?_)
       | (refine kR ?_; refine gr rfl (rvT rfl rv0) (⟨⟨none, 0⟩, 0, []⟩) rfl (er0 Ent.nil) ?_)
       | (refine Pre.mk ?_; first | exact True.intro | omega | ((repeat' (first | refine And.intro ?_ ?_ | assumption | omega)); done))
       | (refine kD ?_; first | exact dm_none | exact dm0 | refine dmOff rfl ?_ | refine dmOn (lvb rfl rfl) ?_ | refine dmOn (lvB rfl rfl rfl) ?_ | refine dmOn (lve rfl rfl) ?_ | refine dmOn (lvE rfl rfl rfl) ?_ | refine dmOn (lva rfl rfl rfl rfl rfl) ?_))
      simp [txB]
instance c_ref07_bytes {insA : Option Addr} {insc insn : Nat} {ins : List InG} {outsA : Option Addr} {outsc outsn : Nat} {outs : List OutG} {after : Int} {w0 : World} {X : Nat → Prop} {L : List Assn} [hins : Rw w0 X L (.slice insA insn insc) RIn ins] [q_ins : InsR w0 X L ins] [houts : Rw w0 X L (.slice outsA outsn outsc) ROut outs] [q_outs : OutsR w0 X L outs] : Ctr Tryd.prog 40 [Ag [.one (.slice insA insn insc), .one (.slice outsA outsn outsc), .one (.int .u32 after)]] w0 X L ((ins.length ≤ 16 ∧ outs.length ≤ 16 ∧ 0 ≤ after ∧ after ≤ 4294967295) ∧ InsOk ins ∧ OutsOk outs ∧ InsN ins ∧ OutsN outs) (fun s0 : Sv => .slice s0.A (txB ins outs after).length s0.c) (fun s0 : Sv => rw_ 5 RB s0 (txB ins outs after).length (txB ins outs after) :: L) (fun s0 : Sv => 6 ≤ (txB ins outs after).length ∧ (txB ins outs after).length ≤ 60000) :=
  ctr' (M' := (fun s0 : Sv => [rw_ 5 RB s0 (txB ins outs after).length (txB ins outs after)])) (by kernel_rfl) (fun hp w hw => by have eins := hins.len hw; subst eins; have eouts := houts.len hw; subst eouts; exact ref07_bytes _ _ _ _ _ _ _ w (hins.get w hw) (q_ins.get w hw) (houts.get w hw) (q_outs.get w hw) hp) (by rintro hp ⟨s0, n0, x0⟩ rfl ok; cases ok.row; exact ⟨s0, rfl, rfl, txB_len hp.2.1 hp.2.2.1 hp.2.2.2.1 hp.2.2.2.2 hp.1⟩)
theorem ref07_May (insA : Option Addr) (insc : Nat) (ins : List InG) (outsA : Option Addr) (outsc : Nat) (outs : List OutG) (after : Int) (w0 : World) (hins : Slr w0 RIn (.slice insA ins.length insc) ins) (q_ins : InsP w0 ins) (houts : Slr w0 ROut (.slice outsA outs.length outsc) outs) (q_outs : OutsP w0 outs) (hp : (0 ≤ after ∧ after ≤ 4294967295) ∧ InsN ins ∧ OutsN outs) :
    Ct Tryd.prog 26 [Ag [.one (.slice insA ins.length insc), .one (.slice outsA outs.length outsc), .one (.int .u32 after)]] w0 no (fun ((e0) : Bool) => .bool e0) (fun (e0) => []) (fun (e0) => e0 = decide (TxMay ins outs after)) := by
  have hst := St.start w0
  have i_ins := Rw.old hins
  have j_ins := InsR.old q_ins
  have i_outs := Rw.old houts
  have j_outs := OutsR.old q_outs
  refine genter _ hst Tryd.func26 rfl rfl rfl rfl ?_
  obtain ⟨hp1, hn1, hn2⟩ := hp
  repeat' (first
   | (refine kO ?_; first | refine gv rfl rfl ?_ | refine gnil ?_ | refine gl rfl (lvb rfl rfl) rfl (fun _ => ?_) | refine gl rfl (lvB rfl rfl rfl) rfl (fun _ => ?_) | refine gl rfl (lve rfl rfl) rfl (fun _ => ?_) | refine gl rfl (lvE rfl rfl rfl) rfl (fun _ => ?_) | refine gl rfl (lva rfl rfl rfl rfl rfl) rfl (fun _ => ?_) | refine gp rfl (by (try simp only [InR]); omega) rfl ?_ | refine gf rfl rfl rfl ?_ | refine gix rfl rfl rfl rfl (by omega) rfl (fun _ => ?_) | refine gixa rfl rfl rfl rfl (by omega) rfl (fun _ => ?_) | (refine kK ?_; first | refine gcall rfl ?_ rfl (fun _ _ => ?_) (fun _ _ => ?_) | refine gcv rfl rfl ?_ rfl (fun _ _ => ?_) (fun _ _ => ?_)) | refine gx rfl rfl (fun _ => ?_) (fun _ => ?_) | refine gw rfl rfl ?_ | (refine kg ?_; (first | refine guardT rfl rfl rfl rfl (fun h => ?_) (fun h => ?_) | refine guardF rfl rfl rfl rfl (fun h => ?_) (fun h => ?_) | refine guardU rfl rfl rfl rfl ?_ | refine guardTH rfl rfl rfl rfl ?_ (fun h => ?_) (fun h => ?_) | refine guardFH rfl rfl rfl rfl ?_ (fun h => ?_) (fun h => ?_) | refine guardUH rfl rfl rfl rfl ?_ ?_) <;> (first | exact h.elim | (exfalso; omega) | skip)))
   | (refine kC ?_; first | refine gseq ?_ | refine greg ?_ | refine gret ?_ | refine gskip ?_ | (refine gcond rfl (fun h => ?_) (fun h => ?_) <;> (first | exact h.elim | (exfalso; omega) | skip)) | refine gblk ?_ | refine gexit ?_)
   | (refine kN ?_; first | refine gthen ?_ | refine gnblk ?_)
   | (refine kR ?_; first | refine grs ?_ | refine grb ?_ | refine grl ?_ | refine grc ?_)
   | (refine kX ?_; first | refine gxs ?_ | refine gxb ?_ | refine gxn rfl ?_ | refine gxl ?_ | refine gxc ?_)
   | (refine kR ?_; refine gr rfl (rvT rfl rv0) (_) rfl Ent.nil ?_)
   | (refine Pre.mk ?_; first | exact True.intro | omega | ((repeat' (first | refine And.intro ?_ ?_ | assumption | omega)); done))
   | (refine kD ?_; first | exact dm_none))
  all_goals try (have hno : ¬ TxMay ins outs after := fun hh => (by have a := hh.1; have b := hh.2.1; omega); simp [hno]; done)
  rename_i g _ _ _ _ _ _
  refine gloop [1] (fun (i : Nat) K => (3, .int .i64 i) :: K) (fun i => [boxA g 27 [.one (.slice insA ins.length insc), .one (.slice outsA outs.length outsc), .one (.int .u32 after)]]) (fun i => i ≤ ins.length ∧ InsOk (ins.take i)) (fun i => ins.length - i) 0 rfl (by repeat (first | exact trivial | refine ⟨rfl, ?_⟩)) (eb Ent.nil) (by simp [InsOk]) (fun i hi => ?_)
  by_cases hlt : i < ins.length
  · have hm : ixd ins (i : Int) ∈ ins := ixd_mem (n := ins.length) ⟨by omega⟩ rfl
    have hs := InsOk_step hi.2 hlt
    repeat' (first
     | (refine kO ?_; first | refine gv rfl rfl ?_ | refine gnil ?_ | refine gl rfl (lvb rfl rfl) rfl (fun _ => ?_) | refine gl rfl (lvB rfl rfl rfl) rfl (fun _ => ?_) | refine gl rfl (lve rfl rfl) rfl (fun _ => ?_) | refine gl rfl (lvE rfl rfl rfl) rfl (fun _ => ?_) | refine gl rfl (lva rfl rfl rfl rfl rfl) rfl (fun _ => ?_) | refine gp rfl (by (try simp only [InR]); omega) rfl ?_ | refine gf rfl rfl rfl ?_ | refine gix rfl rfl rfl rfl (by omega) rfl (fun _ => ?_) | refine gixa rfl rfl rfl rfl (by omega) rfl (fun _ => ?_) | (refine kK ?_; first | refine gcall rfl ?_ rfl (fun _ _ => ?_) (fun _ _ => ?_) | refine gcv rfl rfl ?_ rfl (fun _ _ => ?_) (fun _ _ => ?_)) | refine gx rfl rfl (fun _ => ?_) (fun _ => ?_) | refine gw rfl rfl ?_ | (refine kg ?_; (first | refine guardT rfl rfl rfl rfl (fun h => ?_) (fun h => ?_) | refine guardF rfl rfl rfl rfl (fun h => ?_) (fun h => ?_) | refine guardU rfl rfl rfl rfl ?_ | refine guardTH rfl rfl rfl rfl ?_ (fun h => ?_) (fun h => ?_) | refine guardFH rfl rfl rfl rfl ?_ (fun h => ?_) (fun h => ?_) | refine guardUH rfl rfl rfl rfl ?_ ?_) <;> (first | exact h.elim | (exfalso; omega) | skip)))
     | (refine kC ?_; first | refine gseq ?_ | refine greg ?_ | refine gret ?_ | refine gskip ?_ | (refine gcond rfl (fun h => ?_) (fun h => ?_) <;> (first | exact h.elim | (exfalso; omega) | skip)) | refine gblk ?_ | refine gexit ?_)
     | (refine kN ?_; first | refine gthen ?_ | refine gnblk ?_)
     | (refine kR ?_; first | refine grs ?_ | refine grb ?_ | refine grl ?_ | refine grc ?_)
     | (refine kX ?_; first | refine gxs ?_ | refine gxb ?_ | refine gxn rfl ?_ | refine gxl ?_ | refine gxc ?_)
     | (refine kR ?_; refine gr rfl (rvT rfl rv0) (_) rfl Ent.nil ?_)
     | (refine Pre.mk ?_; first | exact True.intro | omega | ((repeat' (first | refine And.intro ?_ ?_ | assumption | omega)); done))
     | (refine kD ?_; first | exact dm_none))
    · have hno : ¬ TxMay ins outs after := fun hh => by have := hh.2.2.1 _ hm; omega
      simp [hno]
    · exact gnl (i + 1) (by repeat (first | exact trivial | refine ⟨rfl, ?_⟩)) (eb Ent.nil) ⟨by omega, hs (by omega)⟩ (by omega)
  · obtain rfl : i = ins.length := by omega
    obtain ⟨hi, hok⟩ := hi
    rw [List.take_length] at hok
    repeat' (first
     | (refine kO ?_; first | refine gv rfl rfl ?_ | refine gnil ?_ | refine gl rfl (lvb rfl rfl) rfl (fun _ => ?_) | refine gl rfl (lvB rfl rfl rfl) rfl (fun _ => ?_) | refine gl rfl (lve rfl rfl) rfl (fun _ => ?_) | refine gl rfl (lvE rfl rfl rfl) rfl (fun _ => ?_) | refine gl rfl (lva rfl rfl rfl rfl rfl) rfl (fun _ => ?_) | refine gp rfl (by (try simp only [InR]); omega) rfl ?_ | refine gf rfl rfl rfl ?_ | refine gix rfl rfl rfl rfl (by omega) rfl (fun _ => ?_) | refine gixa rfl rfl rfl rfl (by omega) rfl (fun _ => ?_) | (refine kK ?_; first | refine gcall rfl ?_ rfl (fun _ _ => ?_) (fun _ _ => ?_) | refine gcv rfl rfl ?_ rfl (fun _ _ => ?_) (fun _ _ => ?_)) | refine gx rfl rfl (fun _ => ?_) (fun _ => ?_) | refine gw rfl rfl ?_ | (refine kg ?_; (first | refine guardT rfl rfl rfl rfl (fun h => ?_) (fun h => ?_) | refine guardF rfl rfl rfl rfl (fun h => ?_) (fun h => ?_) | refine guardU rfl rfl rfl rfl ?_ | refine guardTH rfl rfl rfl rfl ?_ (fun h => ?_) (fun h => ?_) | refine guardFH rfl rfl rfl rfl ?_ (fun h => ?_) (fun h => ?_) | refine guardUH rfl rfl rfl rfl ?_ ?_) <;> (first | exact h.elim | (exfalso; omega) | skip)))
     | (refine kC ?_; first | refine gseq ?_ | refine greg ?_ | refine gret ?_ | refine gskip ?_ | (refine gcond rfl (fun h => ?_) (fun h => ?_) <;> (first | exact h.elim | (exfalso; omega) | skip)) | refine gblk ?_ | refine gexit ?_)
     | (refine kN ?_; first | refine gthen ?_ | refine gnblk ?_)
     | (refine kR ?_; first | refine grs ?_ | refine grb ?_ | refine grl ?_ | refine grc ?_)
     | (refine kX ?_; first | refine gxs ?_ | refine gxb ?_ | refine gxn rfl ?_ | refine gxl ?_ | refine gxc ?_)
     | (refine kR ?_; refine gr rfl (rvT rfl rv0) (_) rfl Ent.nil ?_)
     | (refine Pre.mk ?_; first | exact True.intro | omega | ((repeat' (first | refine And.intro ?_ ?_ | assumption | omega)); done))
     | (refine kD ?_; first | exact dm_none))
    refine gloop [1] (fun (i : Nat) K => (4, .int .i64 i) :: K) (fun i => [boxA g 27 [.one (.slice insA ins.length insc), .one (.slice outsA outs.length outsc), .one (.int .u32 after)]]) (fun i => i ≤ outs.length ∧ OutsOk (outs.take i)) (fun i => outs.length - i) 0 rfl (by repeat (first | exact trivial | refine ⟨rfl, ?_⟩)) (eb Ent.nil) (by simp [OutsOk]) (fun i hi => ?_)
    by_cases hlt : i < outs.length
    · have hm : ixd outs (i : Int) ∈ outs := ixd_mem (n := outs.length) ⟨by omega⟩ rfl
      have hs := OutsOk_step hi.2 hlt
      repeat' (first
       | (refine kO ?_; first | refine gv rfl rfl ?_ | refine gnil ?_ | refine gl rfl (lvb rfl rfl) rfl (fun _ => ?_) | refine gl rfl (lvB rfl rfl rfl) rfl (fun _ => ?_) | refine gl rfl (lve rfl rfl) rfl (fun _ => ?_) | refine gl rfl (lvE rfl rfl rfl) rfl (fun _ => ?_) | refine gl rfl (lva rfl rfl rfl rfl rfl) rfl (fun _ => ?_) | refine gp rfl (by (try simp only [InR]); omega) rfl ?_ | refine gf rfl rfl rfl ?_ | refine gix rfl rfl rfl rfl (by omega) rfl (fun _ => ?_) | refine gixa rfl rfl rfl rfl (by omega) rfl (fun _ => ?_) | (refine kK ?_; first | refine gcall rfl ?_ rfl (fun _ _ => ?_) (fun _ _ => ?_) | refine gcv rfl rfl ?_ rfl (fun _ _ => ?_) (fun _ _ => ?_)) | refine gx rfl rfl (fun _ => ?_) (fun _ => ?_) | refine gw rfl rfl ?_ | (refine kg ?_; (first | refine guardT rfl rfl rfl rfl (fun h => ?_) (fun h => ?_) | refine guardF rfl rfl rfl rfl (fun h => ?_) (fun h => ?_) | refine guardU rfl rfl rfl rfl ?_ | refine guardTH rfl rfl rfl rfl ?_ (fun h => ?_) (fun h => ?_) | refine guardFH rfl rfl rfl rfl ?_ (fun h => ?_) (fun h => ?_) | refine guardUH rfl rfl rfl rfl ?_ ?_) <;> (first | exact h.elim | (exfalso; omega) | skip)))
       | (refine kC ?_; first | refine gseq ?_ | refine greg ?_ | refine gret ?_ | refine gskip ?_ | (refine gcond rfl (fun h => ?_) (fun h => ?_) <;> (first | exact h.elim | (exfalso; omega) | skip)) | refine gblk ?_ | refine gexit ?_)
       | (refine kN ?_; first | refine gthen ?_ | refine gnblk ?_)
       | (refine kR ?_; first | refine grs ?_ | refine grb ?_ | refine grl ?_ | refine grc ?_)
       | (refine kX ?_; first | refine gxs ?_ | refine gxb ?_ | refine gxn rfl ?_ | refine gxl ?_ | refine gxc ?_)
       | (refine kR ?_; refine gr rfl (rvT rfl rv0) (_) rfl Ent.nil ?_)
       | (refine Pre.mk ?_; first | exact True.intro | omega | ((repeat' (first | refine And.intro ?_ ?_ | assumption | omega)); done))
       | (refine kD ?_; first | exact dm_none))
      · have hno : ¬ TxMay ins outs after := fun hh => (by assumption : ¬ mayO _ _) (hh.2.2.2.1 _ hm)
        simp [hno]
      · exact gnl (i + 1) (by repeat (first | exact trivial | refine ⟨rfl, ?_⟩)) (eb Ent.nil) ⟨by omega, hs (by assumption)⟩ (by omega)
    · obtain rfl : i = outs.length := by omega
      obtain ⟨hi, hok2⟩ := hi
      rw [List.take_length] at hok2
      repeat' (first
       | (refine kO ?_; first | refine gv rfl rfl ?_ | refine gnil ?_ | refine gl rfl (lvb rfl rfl) rfl (fun _ => ?_) | refine gl rfl (lvB rfl rfl rfl) rfl (fun _ => ?_) | refine gl rfl (lve rfl rfl) rfl (fun _ => ?_) | refine gl rfl (lvE rfl rfl rfl) rfl (fun _ => ?_) | refine gl rfl (lva rfl rfl rfl rfl rfl) rfl (fun _ => ?_) | refine gp rfl (by (try simp only [InR]); omega) rfl ?_ | refine gf rfl rfl rfl ?_ | refine gix rfl rfl rfl rfl (by omega) rfl (fun _ => ?_) | refine gixa rfl rfl rfl rfl (by omega) rfl (fun _ => ?_) | (refine kK ?_; first | refine gcall rfl ?_ rfl (fun _ _ => ?_) (fun _ _ => ?_) | refine gcv rfl rfl ?_ rfl (fun _ _ => ?_) (fun _ _ => ?_)) | refine gx rfl rfl (fun _ => ?_) (fun _ => ?_) | refine gw rfl rfl ?_ | (refine kg ?_; (first | refine guardT rfl rfl rfl rfl (fun h => ?_) (fun h => ?_) | refine guardF rfl rfl rfl rfl (fun h => ?_) (fun h => ?_) | refine guardU rfl rfl rfl rfl ?_ | refine guardTH rfl rfl rfl rfl ?_ (fun h => ?_) (fun h => ?_) | refine guardFH rfl rfl rfl rfl ?_ (fun h => ?_) (fun h => ?_) | refine guardUH rfl rfl rfl rfl ?_ ?_) <;> (first | exact h.elim | (exfalso; omega) | skip)))
       | (refine kC ?_; first | refine gseq ?_ | refine greg ?_ | refine gret ?_ | refine gskip ?_ | (refine gcond rfl (fun h => ?_) (fun h => ?_) <;> (first | exact h.elim | (exfalso; omega) | skip)) | refine gblk ?_ | refine gexit ?_)
       | (refine kN ?_; first | refine gthen ?_ | refine gnblk ?_)
       | (refine kR ?_; first | refine grs ?_ | refine grb ?_ | refine grl ?_ | refine grc ?_)
       | (refine kX ?_; first | refine gxs ?_ | refine gxb ?_ | refine gxn rfl ?_ | refine gxl ?_ | refine gxc ?_)
       | (refine kR ?_; refine gr rfl (rvT rfl rv0) (_) rfl Ent.nil ?_)
       | (refine Pre.mk ?_; first | exact True.intro | omega | ((repeat' (first | refine And.intro ?_ ?_ | assumption | omega)); done))
       | (refine kD ?_; first | exact dm_none))
      rw [decide_eq_decide]; unfold TxMay
      exact ⟨fun h => ⟨by omega, by omega, hok, hok2, by omega⟩, fun h => by omega⟩
instance c_ref07_May {insA : Option Addr} {insc insn : Nat} {ins : List InG} {outsA : Option Addr} {outsc outsn : Nat} {outs : List OutG} {after : Int} {w0 : World} {X : Nat → Prop} {L : List Assn} [hins : Rw w0 X L (.slice insA insn insc) RIn ins] [q_ins : InsR w0 X L ins] [houts : Rw w0 X L (.slice outsA outsn outsc) ROut outs] [q_outs : OutsR w0 X L outs] : Ctr Tryd.prog 26 [Ag [.one (.slice insA insn insc), .one (.slice outsA outsn outsc), .one (.int .u32 after)]] w0 X L ((0 ≤ after ∧ after ≤ 4294967295) ∧ InsN ins ∧ OutsN outs) (fun _ : Unit => .bool (decide (TxMay ins outs after))) (fun _ : Unit => L) (fun _ : Unit => True) :=
  ctr' (M' := (fun _ : Unit => [])) (by kernel_rfl) (fun hp w hw => by have eins := hins.len hw; subst eins; have eouts := houts.len hw; subst eouts; exact ref07_May _ _ _ _ _ _ _ w (hins.get w hw) (q_ins.get w hw) (houts.get w hw) (q_outs.get w hw) hp) (by rintro hp e0 rfl ok; exact ⟨(), rfl, rfl, trivial⟩)
theorem ref07_Put (insA : Option Addr) (insc : Nat) (ins : List InG) (outsA : Option Addr) (outsc : Nat) (outs : List OutG) (after : Int) (w0 : World) (hins : Slr w0 RIn (.slice insA ins.length insc) ins) (q_ins : InsP w0 ins) (houts : Slr w0 ROut (.slice outsA outs.length outsc) outs) (q_outs : OutsP w0 outs) (hp : (0 ≤ after ∧ after ≤ 4294967295) ∧ InsN ins ∧ OutsN outs) :
    Ct Tryd.prog 19 [Ag [.one (.slice insA ins.length insc), .one (.slice outsA outs.length outsc), .one (.int .u32 after)]] w0 no (fun ((⟨s0, n0, x0⟩, e1) : Br UInt8 × Int) => .tuple #[.slice s0.A n0 s0.c, .int .i64 e1]) (fun (⟨s0, n0, x0⟩, e1) => [rw_ 5 RB s0 n0 x0]) (fun (⟨s0, n0, x0⟩, e1) => x0 = (txL ins outs after) ∧ e1 = txE ins outs after) := by
  have hst := St.start w0
  have i_ins := Rw.old hins
  have j_ins := InsR.old q_ins
  have i_outs := Rw.old houts
  have j_outs := OutsR.old q_outs
  refine genter _ hst Tryd.func19 rfl rfl rfl rfl ?_
  obtain ⟨hp1, hn1, hn2⟩ := hp
  by_cases hm : TxMay ins outs after
  · obtain ⟨m1, m2, m3, m4, m5⟩ := hm
    have hm : TxMay ins outs after := ⟨m1, m2, m3, m4, m5⟩
    repeat' (first
     | (refine kO ?_; first | refine gv rfl rfl ?_ | refine gnil ?_ | refine gl rfl (lvb rfl rfl) rfl (fun _ => ?_) | refine gl rfl (lvB rfl rfl rfl) rfl (fun _ => ?_) | refine gl rfl (lve rfl rfl) rfl (fun _ => ?_) | refine gl rfl (lvE rfl rfl rfl) rfl (fun _ => ?_) | refine gl rfl (lva rfl rfl rfl rfl rfl) rfl (fun _ => ?_) | (refine kK ?_; first | refine gcall rfl ?_ rfl (fun _ _ => ?_) (fun _ _ => ?_) | refine gcv rfl rfl ?_ rfl (fun _ _ => ?_) (fun _ _ => ?_)) | refine gx rfl rfl (fun _ => ?_) (fun _ => ?_))
     | (refine kC ?_; first | refine gseq ?_ | refine greg ?_ | refine gret ?_ | refine gskip ?_ | (refine gcond rfl (fun h => ?_) (fun h => ?_) <;> (first | exact h.elim | (exfalso; omega) | skip)))
     | (refine kN ?_; first | refine gthen ?_)
     | (refine kR ?_; first | refine grs ?_ | refine grc ?_)
     | (refine kR ?_; refine gr rfl (rvT rfl (rvT rfl rv0)) (⟨_, _, _⟩, _) rfl (er Ent.nil) ?_)
     | (refine kR ?_; refine gr rfl (rvT rfl (rvT rfl rv0)) (⟨⟨none, 0⟩, 0, []⟩, _) rfl (er0 Ent.nil) ?_)
     | (refine Pre.mk ?_; first | exact True.intro | omega | ((repeat' (first | refine And.intro ?_ ?_ | assumption | omega)); done))
     | (refine kD ?_; first | exact dm_none))
    all_goals ((try simp only [txL, txE]); grind)
  · skip
    repeat' (first
     | (refine kO ?_; first | refine gv rfl rfl ?_ | refine gnil ?_ | refine gl rfl (lvb rfl rfl) rfl (fun _ => ?_) | refine gl rfl (lvB rfl rfl rfl) rfl (fun _ => ?_) | refine gl rfl (lve rfl rfl) rfl (fun _ => ?_) | refine gl rfl (lvE rfl rfl rfl) rfl (fun _ => ?_) | refine gl rfl (lva rfl rfl rfl rfl rfl) rfl (fun _ => ?_) | (refine kK ?_; first | refine gcall rfl ?_ rfl (fun _ _ => ?_) (fun _ _ => ?_) | refine gcv rfl rfl ?_ rfl (fun _ _ => ?_) (fun _ _ => ?_)) | refine gx rfl rfl (fun _ => ?_) (fun _ => ?_))
     | (refine kC ?_; first | refine gseq ?_ | refine greg ?_ | refine gret ?_ | refine gskip ?_ | (refine gcond rfl (fun h => ?_) (fun h => ?_) <;> (first | exact h.elim | (exfalso; omega) | skip)))
     | (refine kN ?_; first | refine gthen ?_)
     | (refine kR ?_; first | refine grs ?_ | refine grc ?_)
     | (refine kR ?_; refine gr rfl (rvT rfl (rvT rfl rv0)) (⟨_, _, _⟩, _) rfl (er Ent.nil) ?_)
     | (refine kR ?_; refine gr rfl (rvT rfl (rvT rfl rv0)) (⟨⟨none, 0⟩, 0, []⟩, _) rfl (er0 Ent.nil) ?_)
     | (refine Pre.mk ?_; first | exact True.intro | omega | ((repeat' (first | refine And.intro ?_ ?_ | assumption | omega)); done))
     | (refine kD ?_; first | exact dm_none))
    all_goals ((try simp only [txL, txE]); grind)
instance c_ref07_Put {insA : Option Addr} {insc insn : Nat} {ins : List InG} {outsA : Option Addr} {outsc outsn : Nat} {outs : List OutG} {after : Int} {w0 : World} {X : Nat → Prop} {L : List Assn} [hins : Rw w0 X L (.slice insA insn insc) RIn ins] [q_ins : InsR w0 X L ins] [houts : Rw w0 X L (.slice outsA outsn outsc) ROut outs] [q_outs : OutsR w0 X L outs] : Ctr Tryd.prog 19 [Ag [.one (.slice insA insn insc), .one (.slice outsA outsn outsc), .one (.int .u32 after)]] w0 X L ((0 ≤ after ∧ after ≤ 4294967295) ∧ InsN ins ∧ OutsN outs) (fun s0 : Sv => .tuple #[.slice s0.A (txL ins outs after).length s0.c, .int .i64 (txE ins outs after)]) (fun s0 : Sv => rw_ 5 RB s0 (txL ins outs after).length (txL ins outs after) :: L) (fun s0 : Sv => (txL ins outs after).length ≤ 8000) :=
  ctr' (M' := (fun s0 : Sv => [rw_ 5 RB s0 (txL ins outs after).length (txL ins outs after)])) (by kernel_rfl) (fun hp w hw => by have eins := hins.len hw; subst eins; have eouts := houts.len hw; subst eouts; exact ref07_Put _ _ _ _ _ _ _ w (hins.get w hw) (q_ins.get w hw) (houts.get w hw) (q_outs.get w hw) hp) (by rintro hp ⟨⟨s0, n0, x0⟩, e1⟩ ⟨rfl, rfl⟩ ok; cases ok.row; exact ⟨s0, rfl, rfl, txL_le _ _ _⟩)
theorem ref07_Same (i1A : Option Addr) (i1c : Nat) (i1 : List InG) (o1A : Option Addr) (o1c : Nat) (o1 : List OutG) (a1 : Int) (i2A : Option Addr) (i2c : Nat) (i2 : List InG) (o2A : Option Addr) (o2c : Nat) (o2 : List OutG) (a2 : Int) (w0 : World) (hi1 : Slr w0 RIn (.slice i1A i1.length i1c) i1) (q_i1 : InsP w0 i1) (ho1 : Slr w0 ROut (.slice o1A o1.length o1c) o1) (q_o1 : OutsP w0 o1) (hi2 : Slr w0 RIn (.slice i2A i2.length i2c) i2) (q_i2 : InsP w0 i2) (ho2 : Slr w0 ROut (.slice o2A o2.length o2c) o2) (q_o2 : OutsP w0 o2) (hp : InsN i1 ∧ InsN i2) :
    Ct Tryd.prog 12 [Ag [.one (.slice i1A i1.length i1c), .one (.slice o1A o1.length o1c), .one (.int .u32 a1)], Ag [.one (.slice i2A i2.length i2c), .one (.slice o2A o2.length o2c), .one (.int .u32 a2)]] w0 no (fun ((e0) : Bool) => .bool e0) (fun (e0) => []) (fun (e0) => e0 = decide (TxSame i1 o1 a1 i2 o2 a2)) := by
  have hst := St.start w0
  have i_i1 := Rw.old hi1
  have j_i1 := InsR.old q_i1
  have i_o1 := Rw.old ho1
  have j_o1 := OutsR.old q_o1
  have i_i2 := Rw.old hi2
  have j_i2 := InsR.old q_i2
  have i_o2 := Rw.old ho2
  have j_o2 := OutsR.old q_o2
  refine genter _ hst Tryd.func12 rfl rfl rfl rfl ?_
  obtain ⟨h3, h4⟩ := hp
  have hc1 := hi1.cap
  have hc2 := ho1.cap
  have n1 : i1.length ≠ i2.length → ¬ TxSame i1 o1 a1 i2 o2 a2 := fun h e => len_ne h e.2.1
  have n2 : o1.length ≠ o2.length → ¬ TxSame i1 o1 a1 i2 o2 a2 := fun h e => len_ne h e.2.2
  repeat' (first
   | (refine kO ?_; first | refine gv rfl rfl ?_ | refine gnil ?_ | refine gnilD ?_ | refine gl rfl (lvb rfl rfl) rfl (fun _ => ?_) | refine gl rfl (lvB rfl rfl rfl) rfl (fun _ => ?_) | refine gl rfl (lve rfl rfl) rfl (fun _ => ?_) | refine gl rfl (lvE rfl rfl rfl) rfl (fun _ => ?_) | refine gl rfl (lva rfl rfl rfl rfl rfl) rfl (fun _ => ?_) | refine gp rfl (by (try simp only [InR]); omega) rfl ?_ | refine gf rfl rfl rfl ?_ | refine gix rfl rfl rfl rfl (by omega) rfl (fun _ => ?_) | refine gixa rfl rfl rfl rfl (by omega) rfl (fun _ => ?_) | (refine kK ?_; first | refine gcall rfl ?_ rfl (fun _ _ => ?_) (fun _ _ => ?_) | refine gcv rfl rfl ?_ rfl (fun _ _ => ?_) (fun _ _ => ?_)) | refine gneq rfl rfl (by kernel_rfl) ?_ rfl ?_ | refine gx rfl rfl (fun _ => ?_) (fun _ => ?_) | refine gw rfl rfl ?_ | (refine kg ?_; (first | refine guardT rfl rfl rfl rfl (fun h => ?_) (fun h => ?_) | refine guardF rfl rfl rfl rfl (fun h => ?_) (fun h => ?_) | refine guardU rfl rfl rfl rfl ?_ | refine guardTH rfl rfl rfl rfl ?_ (fun h => ?_) (fun h => ?_) | refine guardFH rfl rfl rfl rfl ?_ (fun h => ?_) (fun h => ?_) | refine guardUH rfl rfl rfl rfl ?_ ?_) <;> (first | exact h.elim | (exfalso; omega) | skip)))
   | (refine kC ?_; first | refine gseq ?_ | refine greg ?_ | refine gret ?_ | refine gskip ?_ | refine gdraw (id := 6) [0,1,2,3,4,5,6,7,8,9,10,11,12,13,14,15,16,17,18,19,20,21,22,23,24,25,26,27,28] (by kernel_rfl) (by kernel_rfl) rfl ?_ | refine gdraw (id := 11) [0,1,2,3,4,5,6,7,8,9,10,11,12,13,14,15,16,17,18,19,20,21,22,23,24,25,26,27,28] (by kernel_rfl) (by kernel_rfl) rfl ?_ | (refine gcond rfl (fun h => ?_) (fun h => ?_) <;> (first | exact h.elim | (exfalso; omega) | skip)) | refine gblk ?_ | refine gexit ?_)
   | (refine kN ?_; first | refine gthen ?_ | refine gnblk ?_)
   | (refine kR ?_; first | refine grs ?_ | refine grb ?_ | refine grl ?_ | refine grc ?_)
   | (refine kX ?_; first | refine gxs ?_ | refine gxb ?_ | refine gxn rfl ?_ | refine gxl ?_ | refine gxc ?_)
   | (refine kR ?_; refine gr rfl (rvT rfl rv0) (_) rfl Ent.nil ?_)
   | (refine Pre.mk ?_; first | exact True.intro | omega | ((repeat' (first | refine And.intro ?_ ?_ | assumption | omega)); done))
   | (refine kD ?_; first | exact dm_none | exact dm0 | refine dmOff rfl ?_ | refine dmOn (lvb rfl rfl) ?_ | refine dmOn (lvB rfl rfl rfl) ?_ | refine dmOn (lve rfl rfl) ?_ | refine dmOn (lvE rfl rfl rfl) ?_ | refine dmOn (lva rfl rfl rfl rfl rfl) ?_))
  · rw [decide_eq_false (n2 (by omega))]
  · refine gloopc [2, 3] (fun (i : Nat) K => (5, .int .i64 i) :: K) (fun i => i ≤ i1.length ∧ ∀ j, j < i → inK (ixd i1 (j : Int)) = inK (ixd i2 (j : Int))) (fun i => i1.length - i) 0 rfl (by repeat (first | exact trivial | refine ⟨rfl, ?_⟩)) (by simp) (fun i hi => ?_)
    by_cases hlt : i < i1.length
    · have ha := h3 (ixd i1 i) (ixd_mem ⟨by omega⟩ rfl)
      have hb := h4 (ixd i2 i) (ixd_mem (n := i2.length) ⟨by omega⟩ rfl)
      have n3 : inK (ixd i1 i) ≠ inK (ixd i2 i) → ¬ TxSame i1 o1 a1 i2 o2 a2 := fun h e => map_ixd_ne hlt (by omega) h e.2.1
      clear n1 n2
      repeat' (first
       | (refine kO ?_; first | refine gv rfl rfl ?_ | refine gnil ?_ | refine gnilD ?_ | refine gl rfl (lvb rfl rfl) rfl (fun _ => ?_) | refine gl rfl (lvB rfl rfl rfl) rfl (fun _ => ?_) | refine gl rfl (lve rfl rfl) rfl (fun _ => ?_) | refine gl rfl (lvE rfl rfl rfl) rfl (fun _ => ?_) | refine gl rfl (lva rfl rfl rfl rfl rfl) rfl (fun _ => ?_) | refine gp rfl (by (try simp only [InR]); omega) rfl ?_ | refine gf rfl rfl rfl ?_ | refine gix rfl rfl rfl rfl (by omega) rfl (fun _ => ?_) | refine gixa rfl rfl rfl rfl (by omega) rfl (fun _ => ?_) | (refine kK ?_; first | refine gcall rfl ?_ rfl (fun _ _ => ?_) (fun _ _ => ?_) | refine gcv rfl rfl ?_ rfl (fun _ _ => ?_) (fun _ _ => ?_)) | refine gneq rfl rfl (by kernel_rfl) ?_ rfl ?_ | refine gx rfl rfl (fun _ => ?_) (fun _ => ?_) | refine gw rfl rfl ?_ | (refine kg ?_; (first | refine guardT rfl rfl rfl rfl (fun h => ?_) (fun h => ?_) | refine guardF rfl rfl rfl rfl (fun h => ?_) (fun h => ?_) | refine guardU rfl rfl rfl rfl ?_ | refine guardTH rfl rfl rfl rfl ?_ (fun h => ?_) (fun h => ?_) | refine guardFH rfl rfl rfl rfl ?_ (fun h => ?_) (fun h => ?_) | refine guardUH rfl rfl rfl rfl ?_ ?_) <;> (first | exact h.elim | (exfalso; omega) | skip)))
       | (refine kC ?_; first | refine gseq ?_ | refine greg ?_ | refine gret ?_ | refine gskip ?_ | refine gdraw (id := 6) [0,1,2,3,4,5,6,7,8,9,10,11,12,13,14,15,16,17,18,19,20,21,22,23,24,25,26,27,28] (by kernel_rfl) (by kernel_rfl) rfl ?_ | refine gdraw (id := 11) [0,1,2,3,4,5,6,7,8,9,10,11,12,13,14,15,16,17,18,19,20,21,22,23,24,25,26,27,28] (by kernel_rfl) (by kernel_rfl) rfl ?_ | (refine gcond rfl (fun h => ?_) (fun h => ?_) <;> (first | exact h.elim | (exfalso; omega) | skip)) | refine gblk ?_ | refine gexit ?_)
       | (refine kN ?_; first | refine gthen ?_ | refine gnblk ?_)
       | (refine kR ?_; first | refine grs ?_ | refine grb ?_ | refine grl ?_ | refine grc ?_)
       | (refine kX ?_; first | refine gxs ?_ | refine gxb ?_ | refine gxn rfl ?_ | refine gxl ?_ | refine gxc ?_)
       | (refine kR ?_; refine gr rfl (rvT rfl rv0) (_) rfl Ent.nil ?_)
       | (refine Pre.mk ?_; first | exact True.intro | omega | ((repeat' (first | refine And.intro ?_ ?_ | assumption | omega)); done))
       | (refine kD ?_; first | exact dm_none | exact dm0 | refine dmOff rfl ?_ | refine dmOn (lvb rfl rfl) ?_ | refine dmOn (lvB rfl rfl rfl) ?_ | refine dmOn (lve rfl rfl) ?_ | refine dmOn (lvE rfl rfl rfl) ?_ | refine dmOn (lva rfl rfl rfl rfl rfl) ?_))
      · rw [decide_eq_false (n3 (by grind [inK]))]
      · clear n3
        refine gnl (i + 1) (by repeat (first | exact trivial | refine ⟨rfl, ?_⟩)) (by repeat (first | exact Ent.nil | refine er ?_ | refine eb ?_)) ⟨by omega, fun j hj => ?_⟩ (by omega)
        by_cases e : j = i
        · subst e; grind [inK]
        · exact hi.2 j (by omega)
      · rw [decide_eq_false (n3 (by grind [inK]))]
    · obtain rfl : i = i1.length := by omega
      have hm := map_ixd (f := inK) (a := i1) (b := i2) (by omega) fun j hj => hi.2 j hj
      clear hi
      repeat' (first
       | (refine kO ?_; first | refine gv rfl rfl ?_ | refine gnil ?_ | refine gnilD ?_ | refine gl rfl (lvb rfl rfl) rfl (fun _ => ?_) | refine gl rfl (lvB rfl rfl rfl) rfl (fun _ => ?_) | refine gl rfl (lve rfl rfl) rfl (fun _ => ?_) | refine gl rfl (lvE rfl rfl rfl) rfl (fun _ => ?_) | refine gl rfl (lva rfl rfl rfl rfl rfl) rfl (fun _ => ?_) | refine gp rfl (by (try simp only [InR]); omega) rfl ?_ | refine gf rfl rfl rfl ?_ | refine gix rfl rfl rfl rfl (by omega) rfl (fun _ => ?_) | refine gixa rfl rfl rfl rfl (by omega) rfl (fun _ => ?_) | (refine kK ?_; first | refine gcall rfl ?_ rfl (fun _ _ => ?_) (fun _ _ => ?_) | refine gcv rfl rfl ?_ rfl (fun _ _ => ?_) (fun _ _ => ?_)) | refine gneq rfl rfl (by kernel_rfl) ?_ rfl ?_ | refine gx rfl rfl (fun _ => ?_) (fun _ => ?_) | refine gw rfl rfl ?_ | (refine kg ?_; (first | refine guardT rfl rfl rfl rfl (fun h => ?_) (fun h => ?_) | refine guardF rfl rfl rfl rfl (fun h => ?_) (fun h => ?_) | refine guardU rfl rfl rfl rfl ?_ | refine guardTH rfl rfl rfl rfl ?_ (fun h => ?_) (fun h => ?_) | refine guardFH rfl rfl rfl rfl ?_ (fun h => ?_) (fun h => ?_) | refine guardUH rfl rfl rfl rfl ?_ ?_) <;> (first | exact h.elim | (exfalso; omega) | skip)))
       | (refine kC ?_; first | refine gseq ?_ | refine greg ?_ | refine gret ?_ | refine gskip ?_ | refine gdraw (id := 6) [0,1,2,3,4,5,6,7,8,9,10,11,12,13,14,15,16,17,18,19,20,21,22,23,24,25,26,27,28] (by kernel_rfl) (by kernel_rfl) rfl ?_ | refine gdraw (id := 11) [0,1,2,3,4,5,6,7,8,9,10,11,12,13,14,15,16,17,18,19,20,21,22,23,24,25,26,27,28] (by kernel_rfl) (by kernel_rfl) rfl ?_ | (refine gcond rfl (fun h => ?_) (fun h => ?_) <;> (first | exact h.elim | (exfalso; omega) | skip)) | refine gblk ?_ | refine gexit ?_)
       | (refine kN ?_; first | refine gthen ?_ | refine gnblk ?_)
       | (refine kR ?_; first | refine grs ?_ | refine grb ?_ | refine grl ?_ | refine grc ?_)
       | (refine kX ?_; first | refine gxs ?_ | refine gxb ?_ | refine gxn rfl ?_ | refine gxl ?_ | refine gxc ?_)
       | (refine kR ?_; refine gr rfl (rvT rfl rv0) (_) rfl Ent.nil ?_)
       | (refine Pre.mk ?_; first | exact True.intro | omega | ((repeat' (first | refine And.intro ?_ ?_ | assumption | omega)); done))
       | (refine kD ?_; first | exact dm_none | exact dm0 | refine dmOff rfl ?_ | refine dmOn (lvb rfl rfl) ?_ | refine dmOn (lvB rfl rfl rfl) ?_ | refine dmOn (lve rfl rfl) ?_ | refine dmOn (lvE rfl rfl rfl) ?_ | refine dmOn (lva rfl rfl rfl rfl rfl) ?_))
      refine gloopc [2, 3] (fun (i : Nat) K => (6, .int .i64 i) :: K) (fun i => i ≤ o1.length ∧ ∀ j, j < i → outK (ixd o1 (j : Int)) = outK (ixd o2 (j : Int))) (fun i => o1.length - i) 0 rfl (by repeat (first | exact trivial | refine ⟨rfl, ?_⟩)) (by simp) (fun i hi => ?_)
      by_cases hlt : i < o1.length
      · have n3 : outK (ixd o1 i) ≠ outK (ixd o2 i) → ¬ TxSame i1 o1 a1 i2 o2 a2 := fun h e => map_ixd_ne hlt (by omega) h e.2.2
        clear n1 n2
        repeat' (first
         | (refine kO ?_; first | refine gv rfl rfl ?_ | refine gnil ?_ | refine gnilD ?_ | refine gl rfl (lvb rfl rfl) rfl (fun _ => ?_) | refine gl rfl (lvB rfl rfl rfl) rfl (fun _ => ?_) | refine gl rfl (lve rfl rfl) rfl (fun _ => ?_) | refine gl rfl (lvE rfl rfl rfl) rfl (fun _ => ?_) | refine gl rfl (lva rfl rfl rfl rfl rfl) rfl (fun _ => ?_) | refine gp rfl (by (try simp only [InR]); omega) rfl ?_ | refine gf rfl rfl rfl ?_ | refine gix rfl rfl rfl rfl (by omega) rfl (fun _ => ?_) | refine gixa rfl rfl rfl rfl (by omega) rfl (fun _ => ?_) | (refine kK ?_; first | refine gcall rfl ?_ rfl (fun _ _ => ?_) (fun _ _ => ?_) | refine gcv rfl rfl ?_ rfl (fun _ _ => ?_) (fun _ _ => ?_)) | refine gneq rfl rfl (by kernel_rfl) ?_ rfl ?_ | refine gx rfl rfl (fun _ => ?_) (fun _ => ?_) | refine gw rfl rfl ?_ | (refine kg ?_; (first | refine guardT rfl rfl rfl rfl (fun h => ?_) (fun h => ?_) | refine guardF rfl rfl rfl rfl (fun h => ?_) (fun h => ?_) | refine guardU rfl rfl rfl rfl ?_ | refine guardTH rfl rfl rfl rfl ?_ (fun h => ?_) (fun h => ?_) | refine guardFH rfl rfl rfl rfl ?_ (fun h => ?_) (fun h => ?_) | refine guardUH rfl rfl rfl rfl ?_ ?_) <;> (first | exact h.elim | (exfalso; omega) | skip)))
         | (refine kC ?_; first | refine gseq ?_ | refine greg ?_ | refine gret ?_ | refine gskip ?_ | refine gdraw (id := 6) [0,1,2,3,4,5,6,7,8,9,10,11,12,13,14,15,16,17,18,19,20,21,22,23,24,25,26,27,28] (by kernel_rfl) (by kernel_rfl) rfl ?_ | refine gdraw (id := 11) [0,1,2,3,4,5,6,7,8,9,10,11,12,13,14,15,16,17,18,19,20,21,22,23,24,25,26,27,28] (by kernel_rfl) (by kernel_rfl) rfl ?_ | (refine gcond rfl (fun h => ?_) (fun h => ?_) <;> (first | exact h.elim | (exfalso; omega) | skip)) | refine gblk ?_ | refine gexit ?_)
         | (refine kN ?_; first | refine gthen ?_ | refine gnblk ?_)
         | (refine kR ?_; first | refine grs ?_ | refine grb ?_ | refine grl ?_ | refine grc ?_)
         | (refine kX ?_; first | refine gxs ?_ | refine gxb ?_ | refine gxn rfl ?_ | refine gxl ?_ | refine gxc ?_)
         | (refine kR ?_; refine gr rfl (rvT rfl rv0) (_) rfl Ent.nil ?_)
         | (refine Pre.mk ?_; first | exact True.intro | omega | ((repeat' (first | refine And.intro ?_ ?_ | assumption | omega)); done))
         | (refine kD ?_; first | exact dm_none | exact dm0 | refine dmOff rfl ?_ | refine dmOn (lvb rfl rfl) ?_ | refine dmOn (lvB rfl rfl rfl) ?_ | refine dmOn (lve rfl rfl) ?_ | refine dmOn (lvE rfl rfl rfl) ?_ | refine dmOn (lva rfl rfl rfl rfl rfl) ?_))
        · rw [decide_eq_false (n3 (by grind [outK]))]
        · clear n3
          refine gnl (i + 1) (by repeat (first | exact trivial | refine ⟨rfl, ?_⟩)) (by repeat (first | exact Ent.nil | refine er ?_ | refine eb ?_)) ⟨by omega, fun j hj => ?_⟩ (by omega)
          by_cases e : j = i
          · subst e; grind [outK]
          · exact hi.2 j (by omega)
        · rw [decide_eq_false (n3 (by grind [outK]))]
      · obtain rfl : i = o1.length := by omega
        have hm2 := map_ixd (f := outK) (a := o1) (b := o2) (by omega) fun j hj => hi.2 j hj
        repeat' (first
         | (refine kO ?_; first | refine gv rfl rfl ?_ | refine gnil ?_ | refine gnilD ?_ | refine gl rfl (lvb rfl rfl) rfl (fun _ => ?_) | refine gl rfl (lvB rfl rfl rfl) rfl (fun _ => ?_) | refine gl rfl (lve rfl rfl) rfl (fun _ => ?_) | refine gl rfl (lvE rfl rfl rfl) rfl (fun _ => ?_) | refine gl rfl (lva rfl rfl rfl rfl rfl) rfl (fun _ => ?_) | refine gp rfl (by (try simp only [InR]); omega) rfl ?_ | refine gf rfl rfl rfl ?_ | refine gix rfl rfl rfl rfl (by omega) rfl (fun _ => ?_) | refine gixa rfl rfl rfl rfl (by omega) rfl (fun _ => ?_) | (refine kK ?_; first | refine gcall rfl ?_ rfl (fun _ _ => ?_) (fun _ _ => ?_) | refine gcv rfl rfl ?_ rfl (fun _ _ => ?_) (fun _ _ => ?_)) | refine gneq rfl rfl (by kernel_rfl) ?_ rfl ?_ | refine gx rfl rfl (fun _ => ?_) (fun _ => ?_) | refine gw rfl rfl ?_ | (refine kg ?_; (first | refine guardT rfl rfl rfl rfl (fun h => ?_) (fun h => ?_) | refine guardF rfl rfl rfl rfl (fun h => ?_) (fun h => ?_) | refine guardU rfl rfl rfl rfl ?_ | refine guardTH rfl rfl rfl rfl ?_ (fun h => ?_) (fun h => ?_) | refine guardFH rfl rfl rfl rfl ?_ (fun h => ?_) (fun h => ?_) | refine guardUH rfl rfl rfl rfl ?_ ?_) <;> (first | exact h.elim | (exfalso; omega) | skip)))
         | (refine kC ?_; first | refine gseq ?_ | refine greg ?_ | refine gret ?_ | refine gskip ?_ | refine gdraw (id := 6) [0,1,2,3,4,5,6,7,8,9,10,11,12,13,14,15,16,17,18,19,20,21,22,23,24,25,26,27,28] (by kernel_rfl) (by kernel_rfl) rfl ?_ | refine gdraw (id := 11) [0,1,2,3,4,5,6,7,8,9,10,11,12,13,14,15,16,17,18,19,20,21,22,23,24,25,26,27,28] (by kernel_rfl) (by kernel_rfl) rfl ?_ | (refine gcond rfl (fun h => ?_) (fun h => ?_) <;> (first | exact h.elim | (exfalso; omega) | skip)) | refine gblk ?_ | refine gexit ?_)
         | (refine kN ?_; first | refine gthen ?_ | refine gnblk ?_)
         | (refine kR ?_; first | refine grs ?_ | refine grb ?_ | refine grl ?_ | refine grc ?_)
         | (refine kX ?_; first | refine gxs ?_ | refine gxb ?_ | refine gxn rfl ?_ | refine gxl ?_ | refine gxc ?_)
         | (refine kR ?_; refine gr rfl (rvT rfl rv0) (_) rfl Ent.nil ?_)
         | (refine Pre.mk ?_; first | exact True.intro | omega | ((repeat' (first | refine And.intro ?_ ?_ | assumption | omega)); done))
         | (refine kD ?_; first | exact dm_none | exact dm0 | refine dmOff rfl ?_ | refine dmOn (lvb rfl rfl) ?_ | refine dmOn (lvB rfl rfl rfl) ?_ | refine dmOn (lve rfl rfl) ?_ | refine dmOn (lvE rfl rfl rfl) ?_ | refine dmOn (lva rfl rfl rfl rfl rfl) ?_))
        rw [decide_eq_true ⟨by assumption, hm, hm2⟩]
  · rw [decide_eq_false (n1 (by omega))]
  · have : ¬ TxSame i1 o1 a1 i2 o2 a2 := fun e => (by assumption : ¬ a1 = a2) e.1
    rw [decide_eq_false this]
instance c_ref07_Same {i1A : Option Addr} {i1c i1n : Nat} {i1 : List InG} {o1A : Option Addr} {o1c o1n : Nat} {o1 : List OutG} {a1 : Int} {i2A : Option Addr} {i2c i2n : Nat} {i2 : List InG} {o2A : Option Addr} {o2c o2n : Nat} {o2 : List OutG} {a2 : Int} {w0 : World} {X : Nat → Prop} {L : List Assn} [hi1 : Rw w0 X L (.slice i1A i1n i1c) RIn i1] [q_i1 : InsR w0 X L i1] [ho1 : Rw w0 X L (.slice o1A o1n o1c) ROut o1] [q_o1 : OutsR w0 X L o1] [hi2 : Rw w0 X L (.slice i2A i2n i2c) RIn i2] [q_i2 : InsR w0 X L i2] [ho2 : Rw w0 X L (.slice o2A o2n o2c) ROut o2] [q_o2 : OutsR w0 X L o2] : Ctr Tryd.prog 12 [Ag [.one (.slice i1A i1n i1c), .one (.slice o1A o1n o1c), .one (.int .u32 a1)], Ag [.one (.slice i2A i2n i2c), .one (.slice o2A o2n o2c), .one (.int .u32 a2)]] w0 X L (InsN i1 ∧ InsN i2) (fun _ : Unit => .bool (decide (TxSame i1 o1 a1 i2 o2 a2))) (fun _ : Unit => L) (fun _ : Unit => True) :=
  ctr' (M' := (fun _ : Unit => [])) (by kernel_rfl) (fun hp w hw => by have ei1 := hi1.len hw; subst ei1; have eo1 := ho1.len hw; subst eo1; have ei2 := hi2.len hw; subst ei2; have eo2 := ho2.len hw; subst eo2; exact ref07_Same _ _ _ _ _ _ _ _ _ _ _ _ _ _ w (hi1.get w hw) (q_i1.get w hw) (ho1.get w hw) (q_o1.get w hw) (hi2.get w hw) (q_i2.get w hw) (ho2.get w hw) (q_o2.get w hw) hp) (by rintro hp e0 rfl ok; exact ⟨(), rfl, rfl, trivial⟩)
theorem ref07_Get (lA : Option Addr) (lc : Nat) (l : List UInt8) (i : Int) (w0 : World) (hl : Slr w0 RB (.slice lA l.length lc) l) (hp : l.length ≤ 140737488351232) :
    Ct Tryd.prog 9 [.slice lA l.length lc, .int .i64 i] w0 no (fun (⟨⟨si, ni, gi, so, nn, go, af⟩, nx, e⟩ : TxV × Int × Int) => .tuple #[Ag [.one (.slice si.A ni si.c), .one (.slice so.A nn so.c), .one (.int .u32 af)], .int .i64 nx, .int .i64 e])
      (fun (⟨si, ni, gi, so, nn, go, af⟩, nx, e) => [rw_ 46 RIn si ni gi, lot (gi.map inRow), rw_ 49 ROut so nn go, lot (go.map outRow)])
      (fun (⟨si, ni, gi, so, nn, go, af⟩, nx, e) => (gi.map inK = tgI l i ∧ go.map outK = tgO l i ∧ af = tgA l i ∧ nx = tgX l i ∧ e = tgE l i) ∧ InsN gi ∧ OutsN go) := by
  have hst := St.start w0
  have i_l := Rw.old hl
  refine genter _ hst Tryd.func9 rfl rfl rfl rfl ?_
  repeat' (first
   | (refine kO ?_; first | refine gv rfl rfl ?_ | refine gnil ?_ | refine gl rfl (lvb rfl rfl) rfl (fun _ => ?_) | refine gl rfl (lvB rfl rfl rfl) rfl (fun _ => ?_) | refine gl rfl (lve rfl rfl) rfl (fun _ => ?_) | refine gl rfl (lvE rfl rfl rfl) rfl (fun _ => ?_) | refine gl rfl (lva rfl rfl rfl rfl rfl) rfl (fun _ => ?_) | refine gp rfl (by (try simp only [InR]); omega) rfl ?_ | refine gf rfl rfl rfl ?_ | (refine kK ?_; first | refine gcall rfl ?_ rfl (fun _ _ => ?_) (fun _ _ => ?_) | refine gcv rfl rfl ?_ rfl (fun _ _ => ?_) (fun _ _ => ?_)) | refine gneq rfl rfl (by kernel_rfl) ?_ rfl ?_ | refine gbu rfl rfl rfl rfl rfl ?_ | refine ga rfl (fun _ => ?_) (fun _ => ?_) | refine gst rfl rfl rfl rfl ?_ ?_ | refine ge rfl rfl rfl rfl ?_ ?_ | refine gea rfl rfl rfl rfl rfl rfl rfl ?_ ?_ | refine gap rfl rfl rfl (by omega) rfl (fun _ => ?_) (fun _ => ?_) | refine gan rfl rfl rfl (by omega) rfl (fun _ => ?_) (fun _ => ?_) | refine gapz rfl rfl rfl rfl (by omega) rfl (fun _ => ?_) (fun _ => ?_) | refine gbs RB rfl rfl rfl rfl rfl rfl (fun _ => ?_) (fun _ => ?_) | refine gbb rfl rfl rfl (by first | (simp; done) | (simp only [and_true]; omega)) rfl rfl rfl rfl (fun _ => ?_) (fun _ => ?_) | refine gb rfl rfl rfl rfl ?_ | refine gw rfl rfl ?_)
   | (refine kC ?_; first | refine gseq ?_ | refine greg ?_ | refine gret ?_ | refine gskip ?_ | (refine gcond rfl (fun h => ?_) (fun h => ?_) <;> (first | exact h.elim | (exfalso; omega) | skip)) | refine gblk ?_ | refine gexit ?_)
   | (refine kN ?_; first | refine gthen ?_ | refine gnblk ?_)
   | (refine kR ?_; first | refine grs ?_ | refine grb ?_ | refine grl ?_ | refine grc ?_)
   | (refine kX ?_; first | refine gxs ?_ | refine gxb ?_ | refine gxn rfl ?_ | refine gxl ?_ | refine gxc ?_)
   | (refine kR ?_; refine gr rfl (rvC rfl (lvb rfl rfl) (rvT rfl (rvT rfl rv0))) (_, _, _) rfl Ent.nil ?_)
   | (refine kR ?_; refine gr rfl (rvC rfl (lvB rfl rfl rfl) (rvT rfl (rvT rfl rv0))) (_, _, _) rfl Ent.nil ?_)
   | (refine Pre.mk ?_; first | exact True.intro | omega | ((repeat' (first | refine And.intro ?_ ?_ | assumption | omega)); done))
   | (refine kD ?_; first | exact dm_none))
  · rename_i h
    refine gr rfl (rvC rfl (lvB rfl rfl rfl) (rvT rfl (rvT rfl rv0))) (⟨⟨none, 0⟩, 0, [], ⟨none, 0⟩, 0, [], _⟩, _, _) rfl (er0 (elot0 (er0 (elot0 Ent.nil)))) ?_
    exact ⟨tg_no h (by unfold tgE; rw [if_pos h]), nofun, nofun⟩
  · refine gr rfl (rvC rfl (lvB rfl rfl rfl) (rvT rfl (rvT rfl rv0))) (⟨⟨none, 0⟩, 0, [], ⟨none, 0⟩, 0, [], _⟩, _, _) rfl (er0 (elot0 (er0 (elot0 Ent.nil)))) ?_
    exact ⟨tg_no (by decide) (by unfold tgE; rw [if_neg (by omega), if_pos (by omega)]), nofun, nofun⟩
  · rename_i g4 gt _ hn hc
    obtain ⟨n, hnn⟩ := Int.eq_ofNat_of_zero_le hn.1
    have hcb := countE_ok hc
    refine gloop3 [0, 1, 4, 7, 8] (fun (k : Nat) (s : Sv) (gi : List InG) K => (9, .int .i64 (gI l (countX l i) k).next) :: (11, .int .u64 k) :: K) (fun k s gi => [rw_ 46 RIn s k gi, lot (gi.map inRow), boxA gt 27 [.one (.slice s.A k s.c), .one (.slice none 0 0), .one (.int .u32 0)], boxA g4 27 [.one (.slice none 0 0), .one (.slice none 0 0), .one (.int .u32 0)]]) (fun k s gi => k ≤ n ∧ (gI l (countX l i) k).e = 0 ∧ gi.map inK = (gI l (countX l i) k).xs ∧ InsN gi) (fun k s gi => n - k) 0 ⟨none, 0⟩ [] rfl (by repeat (first | exact trivial | refine ⟨rfl, ?_⟩)) (er0 (elot0 (eb (eb Ent.nil)))) ⟨by omega, rfl, rfl, nofun⟩ (fun k s gi hi => ?_)
    obtain ⟨h1, h2, h3, h4⟩ := hi
    have hb := gI_b (l := l) (i := countX l i) (by omega) k h2
    by_cases hlt : k < n
    · skip
      repeat' (first
       | (refine kO ?_; first | refine gbs RIn rfl rfl rfl rfl rfl rfl (fun _ => ?_) (fun _ => ?_) | refine gv rfl rfl ?_ | refine gnil ?_ | refine gl rfl (lvb rfl rfl) rfl (fun _ => ?_) | refine gl rfl (lvB rfl rfl rfl) rfl (fun _ => ?_) | refine gl rfl (lve rfl rfl) rfl (fun _ => ?_) | refine gl rfl (lvE rfl rfl rfl) rfl (fun _ => ?_) | refine gl rfl (lva rfl rfl rfl rfl rfl) rfl (fun _ => ?_) | refine gp rfl (by (try simp only [InR]); omega) rfl ?_ | refine gf rfl rfl rfl ?_ | (refine kK ?_; first | refine gcall rfl ?_ rfl (fun _ _ => ?_) (fun _ _ => ?_) | refine gcv rfl rfl ?_ rfl (fun _ _ => ?_) (fun _ _ => ?_)) | refine gneq rfl rfl (by kernel_rfl) ?_ rfl ?_ | refine gbu rfl rfl rfl rfl rfl ?_ | refine ga rfl (fun _ => ?_) (fun _ => ?_) | refine gst rfl rfl rfl rfl ?_ ?_ | refine ge rfl rfl rfl rfl ?_ ?_ | refine gea rfl rfl rfl rfl rfl rfl rfl ?_ ?_ | refine gap rfl rfl rfl (by omega) rfl (fun _ => ?_) (fun _ => ?_) | refine gan rfl rfl rfl (by omega) rfl (fun _ => ?_) (fun _ => ?_) | refine gapz rfl rfl rfl rfl (by omega) rfl (fun _ => ?_) (fun _ => ?_) | refine gbs RB rfl rfl rfl rfl rfl rfl (fun _ => ?_) (fun _ => ?_) | refine gbb rfl rfl rfl (by first | (simp; done) | (simp only [and_true]; omega)) rfl rfl rfl rfl (fun _ => ?_) (fun _ => ?_) | refine gb rfl rfl rfl rfl ?_ | refine gw rfl rfl ?_)
       | (refine kC ?_; first | refine gseq ?_ | refine greg ?_ | refine gret ?_ | refine gskip ?_ | (refine gcond rfl (fun h => ?_) (fun h => ?_) <;> (first | exact h.elim | (exfalso; omega) | skip)) | refine gblk ?_ | refine gexit ?_)
       | (refine kN ?_; first | refine gthen ?_ | refine gnblk ?_)
       | (refine kR ?_; first | refine grs ?_ | refine grb ?_ | refine grl ?_ | refine grc ?_)
       | (refine kX ?_; first | refine gxs ?_ | refine gxb ?_ | refine gxn rfl ?_ | refine gxl ?_ | refine gxc ?_)
       | (refine kR ?_; refine gr rfl (rvC rfl (lvb rfl rfl) (rvT rfl (rvT rfl rv0))) (_, _, _) rfl Ent.nil ?_)
       | (refine kR ?_; refine gr rfl (rvC rfl (lvB rfl rfl rfl) (rvT rfl (rvT rfl rv0))) (_, _, _) rfl Ent.nil ?_)
       | (refine Pre.mk ?_; first | exact True.intro | omega | ((repeat' (first | refine And.intro ?_ ?_ | assumption | omega)); done))
       | (refine kD ?_; first | exact dm_none))
      · rename_i h
        refine gr rfl (rvC rfl (lvB rfl rfl rfl) (rvT rfl (rvT rfl rv0))) (⟨⟨none, 0⟩, 0, [], ⟨none, 0⟩, 0, [], _⟩, _, _) rfl (er0 (elot0 (er0 (elot0 Ent.nil)))) ?_
        have := gI_e1 hlt h2 h
        refine ⟨tg_no h ?_, nofun, nofun⟩
        unfold tgE aI; rw [if_neg (by omega), if_neg (by omega), hnn, Int.toNat_natCast, if_pos (by omega)]; assumption
      · rename_i h
        have h5 : ptE l (gI l (countX l i) k).next = 0 := by assumption
        have h6 := (pt_ok h5).1
        rw [h6] at h ⊢
        refine gr rfl (rvC rfl (lvB rfl rfl rfl) (rvT rfl (rvT rfl rv0))) (⟨⟨none, 0⟩, 0, [], ⟨none, 0⟩, 0, [], _⟩, _, _) rfl (er0 (elot0 (er0 (elot0 Ent.nil)))) ?_
        have := gI_e2 hlt h2 (by omega) h
        refine ⟨tg_no h ?_, nofun, nofun⟩
        unfold tgE aI; rw [if_neg (by omega), if_neg (by omega), hnn, Int.toNat_natCast, if_pos (by omega)]; assumption
      · rename_i s3 _ _ _ _ s'
        have h5 : ptE l (gI l (countX l i) k).next = 0 := by assumption
        have h6 := (pt_ok h5).1
        rw [h6] at h ⊢
        have hk := gI_ok h2 h5 h
        refine gnl3 (k + 1) s' (gi ++ [⟨ptH l (gI l (countX l i) k).next, ptN l (gI l (countX l i) k).next, ptT l (gI l (countX l i) k).next, rowL l ((gI l (countX l i) k).next + 38) 3000, s3⟩]) ?_ ?_ ⟨by omega, by rw [hk], ?_, InsN_snoc h4 (pt_b l _)⟩ (by omega)
        · simp only [hk]; exact (by repeat (first | exact trivial | refine ⟨rfl, ?_⟩))
        · simp only [List.map_append, List.map_cons, List.map_nil]
          exact er (elot1 (eb (eb Ent.nil)))
        · rw [hk]; simp [h3, inK]
    · obtain rfl : k = n := by omega
      clear hlt
      have eI : gI l (countX l i) k = aI l i := by unfold aI; rw [hnn]; rfl
      rw [eI] at h2 h3 hb ⊢
      have tgE2 : ∀ e, e ≠ 0 → countE l (aI l i).next = e → tgE l i = e := fun e h h' => by unfold tgE; rw [if_neg (by omega), if_neg (by omega), if_neg (by omega), if_pos (by omega)]; exact h'
      repeat' (first
       | (refine kO ?_; first | refine gv rfl rfl ?_ | refine gnil ?_ | refine gl rfl (lvb rfl rfl) rfl (fun _ => ?_) | refine gl rfl (lvB rfl rfl rfl) rfl (fun _ => ?_) | refine gl rfl (lve rfl rfl) rfl (fun _ => ?_) | refine gl rfl (lvE rfl rfl rfl) rfl (fun _ => ?_) | refine gl rfl (lva rfl rfl rfl rfl rfl) rfl (fun _ => ?_) | refine gp rfl (by (try simp only [InR]); omega) rfl ?_ | refine gf rfl rfl rfl ?_ | (refine kK ?_; first | refine gcall rfl ?_ rfl (fun _ _ => ?_) (fun _ _ => ?_) | refine gcv rfl rfl ?_ rfl (fun _ _ => ?_) (fun _ _ => ?_)) | refine gneq rfl rfl (by kernel_rfl) ?_ rfl ?_ | refine gbu rfl rfl rfl rfl rfl ?_ | refine ga rfl (fun _ => ?_) (fun _ => ?_) | refine gst rfl rfl rfl rfl ?_ ?_ | refine ge rfl rfl rfl rfl ?_ ?_ | refine gea rfl rfl rfl rfl rfl rfl rfl ?_ ?_ | refine gap rfl rfl rfl (by omega) rfl (fun _ => ?_) (fun _ => ?_) | refine gan rfl rfl rfl (by omega) rfl (fun _ => ?_) (fun _ => ?_) | refine gapz rfl rfl rfl rfl (by omega) rfl (fun _ => ?_) (fun _ => ?_) | refine gbs RB rfl rfl rfl rfl rfl rfl (fun _ => ?_) (fun _ => ?_) | refine gbb rfl rfl rfl (by first | (simp; done) | (simp only [and_true]; omega)) rfl rfl rfl rfl (fun _ => ?_) (fun _ => ?_) | refine gb rfl rfl rfl rfl ?_ | refine gw rfl rfl ?_)
       | (refine kC ?_; first | refine gseq ?_ | refine greg ?_ | refine gret ?_ | refine gskip ?_ | (refine gcond rfl (fun h => ?_) (fun h => ?_) <;> (first | exact h.elim | (exfalso; omega) | skip)) | refine gblk ?_ | refine gexit ?_)
       | (refine kN ?_; first | refine gthen ?_ | refine gnblk ?_)
       | (refine kR ?_; first | refine grs ?_ | refine grb ?_ | refine grl ?_ | refine grc ?_)
       | (refine kX ?_; first | refine gxs ?_ | refine gxb ?_ | refine gxn rfl ?_ | refine gxl ?_ | refine gxc ?_)
       | (refine kR ?_; refine gr rfl (rvC rfl (lvb rfl rfl) (rvT rfl (rvT rfl rv0))) (_, _, _) rfl Ent.nil ?_)
       | (refine kR ?_; refine gr rfl (rvC rfl (lvB rfl rfl rfl) (rvT rfl (rvT rfl rv0))) (_, _, _) rfl Ent.nil ?_)
       | (refine Pre.mk ?_; first | exact True.intro | omega | ((repeat' (first | refine And.intro ?_ ?_ | assumption | omega)); done))
       | (refine kD ?_; first | exact dm_none))
      · rename_i h
        refine gr rfl (rvC rfl (lvB rfl rfl rfl) (rvT rfl (rvT rfl rv0))) (⟨⟨none, 0⟩, 0, [], ⟨none, 0⟩, 0, [], _⟩, _, _) rfl (er0 (elot0 (er0 (elot0 Ent.nil)))) ?_
        exact ⟨tg_no h (tgE2 _ h rfl), nofun, nofun⟩
      · refine gr rfl (rvC rfl (lvB rfl rfl rfl) (rvT rfl (rvT rfl rv0))) (⟨⟨none, 0⟩, 0, [], ⟨none, 0⟩, 0, [], _⟩, _, _) rfl (er0 (elot0 (er0 (elot0 Ent.nil)))) ?_
        exact ⟨tg_no (by decide) (by unfold tgE; rw [if_neg (by omega), if_neg (by omega), if_neg (by omega), if_neg (by omega), if_pos (by omega)]), nofun, nofun⟩
      · rename_i hm hc2
        obtain ⟨m, hmm⟩ := Int.eq_ofNat_of_zero_le hm.1
        have hcb2 := countE_ok hc2
        refine gloop3 [0, 1, 4, 7, 18] (fun (j : Nat) (s' : Sv) (go : List OutG) K => (9, .int .i64 (gO l (countX l (aI l i).next) j).next) :: (21, .int .u64 j) :: K) (fun j s' go => [rw_ 49 ROut s' j go, lot (go.map outRow), rw_ 46 RIn s k gi, lot (gi.map inRow), boxA gt 27 [.one (.slice s.A k s.c), .one (.slice s'.A j s'.c), .one (.int .u32 0)], boxA g4 27 [.one (.slice none 0 0), .one (.slice none 0 0), .one (.int .u32 0)]]) (fun j s' go => j ≤ m ∧ (gO l (countX l (aI l i).next) j).e = 0 ∧ go.map outK = (gO l (countX l (aI l i).next) j).xs ∧ OutsN go) (fun j s' go => m - j) 0 ⟨none, 0⟩ [] rfl (by repeat (first | exact trivial | refine ⟨rfl, ?_⟩)) (er0 (elot0 (er (elot (eb (eb Ent.nil)))))) ⟨by omega, rfl, rfl, nofun⟩ (fun j s' go hj => ?_)
        obtain ⟨j1, j2, j3, j4⟩ := hj
        have hb2 := gO_b (l := l) (i := countX l (aI l i).next) (by omega) j j2
        by_cases hlt : j < m
        · skip
          repeat' (first
           | (refine kO ?_; first | refine gbs ROut rfl rfl rfl rfl rfl rfl (fun _ => ?_) (fun _ => ?_) | refine gv rfl rfl ?_ | refine gnil ?_ | refine gl rfl (lvb rfl rfl) rfl (fun _ => ?_) | refine gl rfl (lvB rfl rfl rfl) rfl (fun _ => ?_) | refine gl rfl (lve rfl rfl) rfl (fun _ => ?_) | refine gl rfl (lvE rfl rfl rfl) rfl (fun _ => ?_) | refine gl rfl (lva rfl rfl rfl rfl rfl) rfl (fun _ => ?_) | refine gp rfl (by (try simp only [InR]); omega) rfl ?_ | refine gf rfl rfl rfl ?_ | (refine kK ?_; first | refine gcall rfl ?_ rfl (fun _ _ => ?_) (fun _ _ => ?_) | refine gcv rfl rfl ?_ rfl (fun _ _ => ?_) (fun _ _ => ?_)) | refine gneq rfl rfl (by kernel_rfl) ?_ rfl ?_ | refine gbu rfl rfl rfl rfl rfl ?_ | refine ga rfl (fun _ => ?_) (fun _ => ?_) | refine gst rfl rfl rfl rfl ?_ ?_ | refine ge rfl rfl rfl rfl ?_ ?_ | refine gea rfl rfl rfl rfl rfl rfl rfl ?_ ?_ | refine gap rfl rfl rfl (by omega) rfl (fun _ => ?_) (fun _ => ?_) | refine gan rfl rfl rfl (by omega) rfl (fun _ => ?_) (fun _ => ?_) | refine gapz rfl rfl rfl rfl (by omega) rfl (fun _ => ?_) (fun _ => ?_) | refine gbs RB rfl rfl rfl rfl rfl rfl (fun _ => ?_) (fun _ => ?_) | refine gbb rfl rfl rfl (by first | (simp; done) | (simp only [and_true]; omega)) rfl rfl rfl rfl (fun _ => ?_) (fun _ => ?_) | refine gb rfl rfl rfl rfl ?_ | refine gw rfl rfl ?_)
           | (refine kC ?_; first | refine gseq ?_ | refine greg ?_ | refine gret ?_ | refine gskip ?_ | (refine gcond rfl (fun h => ?_) (fun h => ?_) <;> (first | exact h.elim | (exfalso; omega) | skip)) | refine gblk ?_ | refine gexit ?_)
           | (refine kN ?_; first | refine gthen ?_ | refine gnblk ?_)
           | (refine kR ?_; first | refine grs ?_ | refine grb ?_ | refine grl ?_ | refine grc ?_)
           | (refine kX ?_; first | refine gxs ?_ | refine gxb ?_ | refine gxn rfl ?_ | refine gxl ?_ | refine gxc ?_)
           | (refine kR ?_; refine gr rfl (rvC rfl (lvb rfl rfl) (rvT rfl (rvT rfl rv0))) (_, _, _) rfl Ent.nil ?_)
           | (refine kR ?_; refine gr rfl (rvC rfl (lvB rfl rfl rfl) (rvT rfl (rvT rfl rv0))) (_, _, _) rfl Ent.nil ?_)
           | (refine Pre.mk ?_; first | exact True.intro | omega | ((repeat' (first | refine And.intro ?_ ?_ | assumption | omega)); done))
           | (refine kD ?_; first | exact dm_none))
          · rename_i h
            refine gr rfl (rvC rfl (lvB rfl rfl rfl) (rvT rfl (rvT rfl rv0))) (⟨⟨none, 0⟩, 0, [], ⟨none, 0⟩, 0, [], _⟩, _, _) rfl (er0 (elot0 (er0 (elot0 Ent.nil)))) ?_
            have := gO_e1 hlt j2 h
            refine ⟨tg_no h ?_, nofun, nofun⟩
            unfold tgE aO; rw [if_neg (by omega), if_neg (by omega), if_neg (by omega), if_neg (by omega), if_neg (by omega), hmm, Int.toNat_natCast, if_pos (by omega)]; assumption
          · rename_i s3 _ _ _ _ _ s2
            have h5 : goE l (gO l (countX l (aI l i).next) j).next = 0 := by assumption
            have hk := gO_ok j2 h5
            have hbb := go_ok l (gO l (countX l (aI l i).next) j).next
            refine gnl3 (j + 1) s2 (go ++ [⟨goV l (gO l (countX l (aI l i).next) j).next, goL l (gO l (countX l (aI l i).next) j).next, s3⟩]) ?_ ?_ ⟨by omega, by rw [hk], ?_, OutsN_snoc j4 ⟨hbb.1.1, Int.le_trans hbb.1.2 (by decide)⟩⟩ (by omega)
            · simp only [hk]; exact (by repeat (first | exact trivial | refine ⟨rfl, ?_⟩))
            · simp only [List.map_append, List.map_cons, List.map_nil]
              exact er (elot1 (er (elot (eb (eb Ent.nil)))))
            · rw [hk]; simp [j3, outK]
        · obtain rfl : j = m := by omega
          clear hlt
          have eO : gO l (countX l (aI l i).next) j = aO l i := by unfold aO; rw [hmm]; rfl
          rw [eO] at j2 j3 hb2 ⊢
          repeat' (first
           | (refine kO ?_; first | refine gv rfl rfl ?_ | refine gnil ?_ | refine gl rfl (lvb rfl rfl) rfl (fun _ => ?_) | refine gl rfl (lvB rfl rfl rfl) rfl (fun _ => ?_) | refine gl rfl (lve rfl rfl) rfl (fun _ => ?_) | refine gl rfl (lvE rfl rfl rfl) rfl (fun _ => ?_) | refine gl rfl (lva rfl rfl rfl rfl rfl) rfl (fun _ => ?_) | refine gp rfl (by (try simp only [InR]); omega) rfl ?_ | refine gf rfl rfl rfl ?_ | (refine kK ?_; first | refine gcall rfl ?_ rfl (fun _ _ => ?_) (fun _ _ => ?_) | refine gcv rfl rfl ?_ rfl (fun _ _ => ?_) (fun _ _ => ?_)) | refine gneq rfl rfl (by kernel_rfl) ?_ rfl ?_ | refine gbu rfl rfl rfl rfl rfl ?_ | refine ga rfl (fun _ => ?_) (fun _ => ?_) | refine gst rfl rfl rfl rfl ?_ ?_ | refine ge rfl rfl rfl rfl ?_ ?_ | refine gea rfl rfl rfl rfl rfl rfl rfl ?_ ?_ | refine gap rfl rfl rfl (by omega) rfl (fun _ => ?_) (fun _ => ?_) | refine gan rfl rfl rfl (by omega) rfl (fun _ => ?_) (fun _ => ?_) | refine gapz rfl rfl rfl rfl (by omega) rfl (fun _ => ?_) (fun _ => ?_) | refine gbs RB rfl rfl rfl rfl rfl rfl (fun _ => ?_) (fun _ => ?_) | refine gbb rfl rfl rfl (by first | (simp; done) | (simp only [and_true]; omega)) rfl rfl rfl rfl (fun _ => ?_) (fun _ => ?_) | refine gb rfl rfl rfl rfl ?_ | refine gw rfl rfl ?_)
           | (refine kC ?_; first | refine gseq ?_ | refine greg ?_ | refine gret ?_ | refine gskip ?_ | (refine gcond rfl (fun h => ?_) (fun h => ?_) <;> (first | exact h.elim | (exfalso; omega) | skip)) | refine gblk ?_ | refine gexit ?_)
           | (refine kN ?_; first | refine gthen ?_ | refine gnblk ?_)
           | (refine kR ?_; first | refine grs ?_ | refine grb ?_ | refine grl ?_ | refine grc ?_)
           | (refine kX ?_; first | refine gxs ?_ | refine gxb ?_ | refine gxn rfl ?_ | refine gxl ?_ | refine gxc ?_)
           | (refine kR ?_; refine gr rfl (rvC rfl (lvb rfl rfl) (rvT rfl (rvT rfl rv0))) (_, _, _) rfl Ent.nil ?_)
           | (refine kR ?_; refine gr rfl (rvC rfl (lvB rfl rfl rfl) (rvT rfl (rvT rfl rv0))) (_, _, _) rfl Ent.nil ?_)
           | (refine Pre.mk ?_; first | exact True.intro | omega | ((repeat' (first | refine And.intro ?_ ?_ | assumption | omega)); done))
           | (refine kD ?_; first | exact dm_none))
          · rename_i h
            refine gr rfl (rvC rfl (lvB rfl rfl rfl) (rvT rfl (rvT rfl rv0))) (⟨⟨none, 0⟩, 0, [], ⟨none, 0⟩, 0, [], _⟩, _, _) rfl (er0 (elot0 (er0 (elot0 Ent.nil)))) ?_
            exact ⟨tg_no h (by unfold tgE; rw [if_neg (by omega), if_neg (by omega), if_neg (by omega), if_neg (by omega), if_neg (by omega), if_neg (by omega), if_pos (by omega)]), nofun, nofun⟩
          · refine gr rfl (rvC rfl (lvB rfl rfl rfl) (rvT rfl (rvT rfl rv0))) (⟨⟨none, 0⟩, 0, [], ⟨none, 0⟩, 0, [], _⟩, _, _) rfl (er0 (elot0 (er0 (elot0 Ent.nil)))) ?_
            exact ⟨tg_no (by decide) (by unfold tgE; rw [if_neg (by omega), if_neg (by omega), if_neg (by omega), if_neg (by omega), if_neg (by omega), if_neg (by omega), if_neg (by omega), if_pos (by omega)]), nofun, nofun⟩
          · refine gr rfl (rvC rfl (lvB rfl rfl rfl) (rvT rfl (rvT rfl rv0))) (⟨s, k, gi, s', j, go, _⟩, _, _) rfl (er (elot (er (elot Ent.nil)))) ?_
            have hz : tgE l i = 0 := by unfold tgE; rw [if_neg (by omega), if_neg (by omega), if_neg (by omega), if_neg (by omega), if_neg (by omega), if_neg (by omega), if_neg (by omega), if_neg (by omega)]
            refine ⟨⟨?_, ?_, ?_, ?_, hz.symm⟩, h4, j4⟩
            · unfold tgI; rw [if_pos hz, h3]
            · unfold tgO; rw [if_pos hz, j3]
            · unfold tgA; rw [if_pos hz]; exact wu32 ⟨by omega, getN_4 l _⟩
            · unfold tgX; rw [if_pos hz]
/-- a transaction that is answered: its memory -/
structure TxM where
  si : Sv
  gi : List InG
  so : Sv
  go : List OutG
  hi : InsN gi
  ho : OutsN go
instance {r : TxM} : InsNc r.gi := ⟨r.hi⟩
instance {r : TxM} : OutsNc r.go := ⟨r.ho⟩
instance c_ref07_Get {lA : Option Addr} {lc ln : Nat} {l : List UInt8} {i : Int} {w0 : World} {X : Nat → Prop} {L : List Assn} [hl : Rw w0 X L (.slice lA ln lc) RB l] : Ctr Tryd.prog 9 [.slice lA ln lc, .int .i64 i] w0 X L (l.length ≤ 140737488351232) (fun r : TxM => .tuple #[Ag [.one (.slice r.si.A r.gi.length r.si.c), .one (.slice r.so.A r.go.length r.so.c), .one (.int .u32 (tgA l i))], .int .i64 (tgX l i), .int .i64 (tgE l i)])
    (fun r : TxM => rw_ 46 RIn r.si r.gi.length r.gi :: lot (r.gi.map inRow) :: rw_ 49 ROut r.so r.go.length r.go :: lot (r.go.map outRow) :: L) (fun r : TxM => r.gi.map inK = tgI l i ∧ r.go.map outK = tgO l i ∧ InsN r.gi ∧ OutsN r.go) :=
  ctr' (M' := fun r : TxM => [rw_ 46 RIn r.si r.gi.length r.gi, lot (r.gi.map inRow), rw_ 49 ROut r.so r.go.length r.go, lot (r.go.map outRow)]) (by kernel_rfl) (fun hp w hw => by have el := hl.len hw; subst el; exact ref07_Get _ _ _ _ w (hl.get w hw) hp) (by
    rintro hp ⟨⟨si, ni, gi, so, nn, go, af⟩, nx, e⟩ ⟨⟨h1, h2, rfl, rfl, rfl⟩, h3, h4⟩ ok
    cases ok.row; cases ok.tail.tail.row
    exact ⟨⟨si, gi, so, go, h3, h4⟩, rfl, rfl, h1, h2, h3, h4⟩)
theorem ref07_Read (lA : Option Addr) (lc : Nat) (l : List UInt8) (w0 : World) (hl : Slr w0 RB (.slice lA l.length lc) l) (hp : l.length ≤ 140737488351232) :
    Ct Tryd.prog 11 [.slice lA l.length lc] w0 no (fun (⟨⟨si, ni, gi, so, nn, go, af⟩, e⟩ : TxV × Int) => .tuple #[Ag [.one (.slice si.A ni si.c), .one (.slice so.A nn so.c), .one (.int .u32 af)], .int .i64 e])
      (fun (⟨si, ni, gi, so, nn, go, af⟩, e) => [rw_ 46 RIn si ni gi, lot (gi.map inRow), rw_ 49 ROut so nn go, lot (go.map outRow)])
      (fun (⟨si, ni, gi, so, nn, go, af⟩, e) => (gi.map inK = trI l ∧ go.map outK = trO l ∧ af = trA l ∧ e = trE l) ∧ InsN gi ∧ OutsN go) := by
  have hst := St.start w0
  have i_l := Rw.old hl
  refine genter _ hst Tryd.func11 rfl rfl rfl rfl ?_
  repeat' (first
   | (refine kO ?_; first | refine gv rfl rfl ?_ | refine gnil ?_ | refine gl rfl (lvb rfl rfl) rfl (fun _ => ?_) | refine gl rfl (lvB rfl rfl rfl) rfl (fun _ => ?_) | refine gl rfl (lve rfl rfl) rfl (fun _ => ?_) | refine gl rfl (lvE rfl rfl rfl) rfl (fun _ => ?_) | refine gl rfl (lva rfl rfl rfl rfl rfl) rfl (fun _ => ?_) | refine gp rfl (by (try simp only [InR]); omega) rfl ?_ | (refine kK ?_; first | refine gcall rfl ?_ rfl (fun _ _ => ?_) (fun _ _ => ?_) | refine gcv rfl rfl ?_ rfl (fun _ _ => ?_) (fun _ _ => ?_)) | refine gneq rfl rfl (by kernel_rfl) ?_ rfl ?_ | refine gbu rfl rfl rfl rfl rfl ?_ | refine ga rfl (fun _ => ?_) (fun _ => ?_) | refine gst rfl rfl rfl rfl ?_ ?_ | refine ge rfl rfl rfl rfl ?_ ?_ | refine gea rfl rfl rfl rfl rfl rfl rfl ?_ ?_)
   | (refine kC ?_; first | refine gseq ?_ | refine greg ?_ | refine gret ?_ | refine gskip ?_ | (refine gcond rfl (fun h => ?_) (fun h => ?_) <;> (first | exact h.elim | (exfalso; omega) | skip)))
   | (refine kN ?_; first | refine gthen ?_)
   | (refine kR ?_; first | refine grs ?_ | refine grc ?_)
   | (refine kR ?_; refine gr rfl (rvC rfl (lvb rfl rfl) (rvT rfl rv0)) (_, _) rfl Ent.nil ?_)
   | (refine kR ?_; refine gr rfl (rvC rfl (lvB rfl rfl rfl) (rvT rfl rv0)) (_, _) rfl Ent.nil ?_)
   | (refine Pre.mk ?_; first | exact True.intro | omega | ((repeat' (first | refine And.intro ?_ ?_ | assumption | omega)); done))
   | (refine kD ?_; first | exact dm_none))
  · rename_i h
    refine gr rfl (rvC rfl (lvB rfl rfl rfl) (rvT rfl rv0)) (⟨⟨none, 0⟩, 0, [], ⟨none, 0⟩, 0, [], _⟩, _) rfl (er0 (elot0 (er0 (elot0 Ent.nil)))) ?_
    exact ⟨tr_no h (by unfold trE; rw [if_pos h]), nofun, nofun⟩
  · rename_i h
    refine gr rfl (rvC rfl (lvB rfl rfl rfl) (rvT rfl rv0)) (⟨⟨none, 0⟩, 0, [], ⟨none, 0⟩, 0, [], _⟩, _) rfl (er0 (elot0 (er0 (elot0 Ent.nil)))) ?_
    exact ⟨tr_no (by decide) (by unfold trE; rw [if_neg (by omega), if_pos h]), nofun, nofun⟩
  · rename_i _ r hr _ _ _
    refine gr rfl (rvC rfl (lvB rfl rfl rfl) (rvT rfl rv0)) (⟨r.si, r.gi.length, r.gi, r.so, r.go.length, r.go, _⟩, _) rfl (er (elot (er (elot Ent.nil)))) ?_
    have hz : trE l = 0 := by unfold trE; rw [if_neg (by omega), if_neg (by omega)]
    refine ⟨⟨?_, ?_, ?_, hz.symm⟩, hr.2.2.1, hr.2.2.2⟩
    · unfold trI; rw [if_pos hz]; exact hr.1
    · unfold trO; rw [if_pos hz]; exact hr.2.1
    · unfold trA; rw [if_pos hz]
instance c_ref07_Read {lA : Option Addr} {lc ln : Nat} {l : List UInt8} {w0 : World} {X : Nat → Prop} {L : List Assn} [hl : Rw w0 X L (.slice lA ln lc) RB l] : Ctr Tryd.prog 11 [.slice lA ln lc] w0 X L (l.length ≤ 140737488351232) (fun r : TxM => .tuple #[Ag [.one (.slice r.si.A r.gi.length r.si.c), .one (.slice r.so.A r.go.length r.so.c), .one (.int .u32 (trA l))], .int .i64 (trE l)])
    (fun r : TxM => rw_ 46 RIn r.si r.gi.length r.gi :: lot (r.gi.map inRow) :: rw_ 49 ROut r.so r.go.length r.go :: lot (r.go.map outRow) :: L) (fun r : TxM => r.gi.map inK = trI l ∧ r.go.map outK = trO l ∧ InsN r.gi ∧ OutsN r.go) :=
  ctr' (M' := fun r : TxM => [rw_ 46 RIn r.si r.gi.length r.gi, lot (r.gi.map inRow), rw_ 49 ROut r.so r.go.length r.go, lot (r.go.map outRow)]) (by kernel_rfl) (fun hp w hw => by have el := hl.len hw; subst el; exact ref07_Read _ _ _ w (hl.get w hw) hp) (by
    rintro hp ⟨⟨si, ni, gi, so, nn, go, af⟩, e⟩ ⟨⟨h1, h2, rfl, rfl⟩, h3, h4⟩ ok
    cases ok.row; cases ok.tail.tail.row
    exact ⟨⟨si, gi, so, go, h3, h4⟩, rfl, rfl, h1, h2, h3, h4⟩)
end Go.Proofs.YtdbikdbogpofbaaDoor
