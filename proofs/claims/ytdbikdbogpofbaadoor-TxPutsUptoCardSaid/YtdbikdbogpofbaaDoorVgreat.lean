/-
  moneyerlaw07.great.
-/
import Derived.Test.YtdbikdbogpofbaaDoorVref07
set_option linter.all false
set_option maxRecDepth 100000
set_option maxHeartbeats 4000000
namespace Go.Proofs.YtdbikdbogpofbaaDoor
open Go.RowKit
def sumI (gs : List InG) : Nat := (gs.map fun g => g.ul.length).sum
def sumO (os : List OutG) : Nat := (os.map fun o => o.lock.length).sum
theorem sum_take {α : Type} [Inhabited α] {f : α → Nat} {l : List α} {i : Nat} (h : i < l.length) : ((l.take (i + 1)).map f).sum = ((l.take i).map f).sum + f (ixd l i) := by
  have e : ixd l (i : Int) = l[i] := by rw [ixd_eq (by simpa using h)]; simp
  rw [List.take_succ_eq_append_getElem h, e, List.map_append, List.sum_append]; simp
theorem sum_take_le {α : Type} {f : α → Nat} (l : List α) (i : Nat) : ((l.take i).map f).sum ≤ (l.map f).sum := by
  have h := congrArg (fun l => (l.map f).sum) (List.take_append_drop i l)
  simp only [List.map_append, List.sum_append] at h; omega
theorem law07_great (insA : Option Addr) (insc : Nat) (ins : List InG) (outsA : Option Addr) (outsc : Nat) (outs : List OutG) (after : Int) (w0 : World) (hins : Slr w0 RIn (.slice insA ins.length insc) ins) (q_ins : InsP w0 ins) (houts : Slr w0 ROut (.slice outsA outs.length outsc) outs) (q_outs : OutsP w0 outs) (hp : ins.length ≤ 1099511627776 ∧ outs.length ≤ 1099511627776 ∧ sumI ins ≤ 1099511627776 ∧ sumO outs ≤ 1099511627776) :
    Ct Tryd.prog 18 [Ag [.one (.slice insA ins.length insc), .one (.slice outsA outs.length outsc), .one (.int .u32 after)]] w0 no (fun ((e0) : Bool) => .bool e0) (fun (e0) => []) (fun (e0) => e0 = decide (20000 < 40 * (ins.length + outs.length) + sumI ins + sumO outs)) := by
  have hst := St.start w0
  have i_ins := Rw.old hins
  have j_ins := InsR.old q_ins
  have i_outs := Rw.old houts
  have j_outs := OutsR.old q_outs
  refine genter _ hst Tryd.func18 rfl rfl rfl rfl ?_
  repeat' (first
   | (refine kO ?_; first | refine gv rfl rfl ?_ | refine gnil ?_ | refine gl rfl (lvb rfl rfl) rfl (fun _ => ?_) | refine gl rfl (lvB rfl rfl rfl) rfl (fun _ => ?_) | refine gl rfl (lve rfl rfl) rfl (fun _ => ?_) | refine gl rfl (lvE rfl rfl rfl) rfl (fun _ => ?_) | refine gl rfl (lva rfl rfl rfl rfl rfl) rfl (fun _ => ?_) | refine gp rfl (by (try simp only [InR]); omega) rfl ?_ | refine gf rfl rfl rfl ?_ | refine gix rfl rfl rfl rfl (by omega) rfl (fun _ => ?_) | refine gixa rfl rfl rfl rfl (by omega) rfl (fun _ => ?_) | (refine kK ?_; first | refine gcall rfl ?_ rfl (fun _ _ => ?_) (fun _ _ => ?_) | refine gcv rfl rfl ?_ rfl (fun _ _ => ?_) (fun _ _ => ?_)) | refine gx rfl rfl (fun _ => ?_) (fun _ => ?_) | refine gw rfl rfl ?_)
   | (refine kC ?_; first | refine gseq ?_ | refine greg ?_ | refine gret ?_ | refine gskip ?_ | (refine gcond rfl (fun h => ?_) (fun h => ?_) <;> (first | exact h.elim | (exfalso; omega) | skip)) | refine gblk ?_ | refine gexit ?_)
   | (refine kN ?_; first | refine gthen ?_ | refine gnblk ?_)
   | (refine kR ?_; first | refine grs ?_ | refine grb ?_ | refine grl ?_ | refine grc ?_)
   | (refine kX ?_; first | refine gxs ?_ | refine gxb ?_ | refine gxn rfl ?_ | refine gxl ?_ | refine gxc ?_)
   | (refine kR ?_; refine gr rfl (rvT rfl rv0) (_) rfl Ent.nil ?_)
   | (refine Pre.mk ?_; first | exact True.intro | omega | ((repeat' (first | refine And.intro ?_ ?_ | assumption | omega)); done))
   | (refine kD ?_; first | exact dm_none))
  rename_i g _ _
  have b0 : ∀ i, sumI (ins.take i) ≤ sumI ins := fun i => sum_take_le ins i
  have b1 : ∀ i, sumO (outs.take i) ≤ sumO outs := fun i => sum_take_le outs i
  refine gloop [1] (fun (i : Nat) K => (3, .int .i64 (40 * ((ins.length : Int) + outs.length) + sumI (ins.take i))) :: (4, .int .i64 i) :: K) (fun i => [boxA g 27 [.one (.slice insA ins.length insc), .one (.slice outsA outs.length outsc), .one (.int .u32 after)]]) (fun i => i ≤ ins.length) (fun i => ins.length - i) 0 rfl (by simp only [sumI, List.take_zero, List.map_nil, List.sum_nil, Int.ofNat_zero, Int.add_zero]; exact (by repeat (first | exact trivial | refine ⟨rfl, ?_⟩))) (eb Ent.nil) (by omega) (fun i hi => ?_)
  have := b0 i
  by_cases hlt : i < ins.length
  · have hs : sumI (ins.take (i + 1)) = sumI (ins.take i) + (ixd ins i).ul.length := sum_take hlt
    have := b0 (i + 1)
    repeat' (first
     | (refine kO ?_; first | refine gv rfl rfl ?_ | refine gnil ?_ | refine gl rfl (lvb rfl rfl) rfl (fun _ => ?_) | refine gl rfl (lvB rfl rfl rfl) rfl (fun _ => ?_) | refine gl rfl (lve rfl rfl) rfl (fun _ => ?_) | refine gl rfl (lvE rfl rfl rfl) rfl (fun _ => ?_) | refine gl rfl (lva rfl rfl rfl rfl rfl) rfl (fun _ => ?_) | refine gp rfl (by (try simp only [InR]); omega) rfl ?_ | refine gf rfl rfl rfl ?_ | refine gix rfl rfl rfl rfl (by omega) rfl (fun _ => ?_) | refine gixa rfl rfl rfl rfl (by omega) rfl (fun _ => ?_) | (refine kK ?_; first | refine gcall rfl ?_ rfl (fun _ _ => ?_) (fun _ _ => ?_) | refine gcv rfl rfl ?_ rfl (fun _ _ => ?_) (fun _ _ => ?_)) | refine gx rfl rfl (fun _ => ?_) (fun _ => ?_) | refine gw rfl rfl ?_)
     | (refine kC ?_; first | refine gseq ?_ | refine greg ?_ | refine gret ?_ | refine gskip ?_ | (refine gcond rfl (fun h => ?_) (fun h => ?_) <;> (first | exact h.elim | (exfalso; omega) | skip)) | refine gblk ?_ | refine gexit ?_)
     | (refine kN ?_; first | refine gthen ?_ | refine gnblk ?_)
     | (refine kR ?_; first | refine grs ?_ | refine grb ?_ | refine grl ?_ | refine grc ?_)
     | (refine kX ?_; first | refine gxs ?_ | refine gxb ?_ | refine gxn rfl ?_ | refine gxl ?_ | refine gxc ?_)
     | (refine kR ?_; refine gr rfl (rvT rfl rv0) (_) rfl Ent.nil ?_)
     | (refine Pre.mk ?_; first | exact True.intro | omega | ((repeat' (first | refine And.intro ?_ ?_ | assumption | omega)); done))
     | (refine kD ?_; first | exact dm_none))
    refine gnl (i + 1) ?_ (eb Ent.nil) (by omega) (by omega)
    rw [hs, Int.natCast_add, ← Int.add_assoc]; exact (by repeat (first | exact trivial | refine ⟨rfl, ?_⟩))
  · obtain rfl : i = ins.length := by omega
    rw [List.take_length]
    repeat' (first
     | (refine kO ?_; first | refine gv rfl rfl ?_ | refine gnil ?_ | refine gl rfl (lvb rfl rfl) rfl (fun _ => ?_) | refine gl rfl (lvB rfl rfl rfl) rfl (fun _ => ?_) | refine gl rfl (lve rfl rfl) rfl (fun _ => ?_) | refine gl rfl (lvE rfl rfl rfl) rfl (fun _ => ?_) | refine gl rfl (lva rfl rfl rfl rfl rfl) rfl (fun _ => ?_) | refine gp rfl (by (try simp only [InR]); omega) rfl ?_ | refine gf rfl rfl rfl ?_ | refine gix rfl rfl rfl rfl (by omega) rfl (fun _ => ?_) | refine gixa rfl rfl rfl rfl (by omega) rfl (fun _ => ?_) | (refine kK ?_; first | refine gcall rfl ?_ rfl (fun _ _ => ?_) (fun _ _ => ?_) | refine gcv rfl rfl ?_ rfl (fun _ _ => ?_) (fun _ _ => ?_)) | refine gx rfl rfl (fun _ => ?_) (fun _ => ?_) | refine gw rfl rfl ?_)
     | (refine kC ?_; first | refine gseq ?_ | refine greg ?_ | refine gret ?_ | refine gskip ?_ | (refine gcond rfl (fun h => ?_) (fun h => ?_) <;> (first | exact h.elim | (exfalso; omega) | skip)) | refine gblk ?_ | refine gexit ?_)
     | (refine kN ?_; first | refine gthen ?_ | refine gnblk ?_)
     | (refine kR ?_; first | refine grs ?_ | refine grb ?_ | refine grl ?_ | refine grc ?_)
     | (refine kX ?_; first | refine gxs ?_ | refine gxb ?_ | refine gxn rfl ?_ | refine gxl ?_ | refine gxc ?_)
     | (refine kR ?_; refine gr rfl (rvT rfl rv0) (_) rfl Ent.nil ?_)
     | (refine Pre.mk ?_; first | exact True.intro | omega | ((repeat' (first | refine And.intro ?_ ?_ | assumption | omega)); done))
     | (refine kD ?_; first | exact dm_none))
    refine gloop [1] (fun (i : Nat) K => (3, .int .i64 (40 * ((ins.length : Int) + outs.length) + sumI ins + sumO (outs.take i))) :: (5, .int .i64 i) :: K) (fun i => [boxA g 27 [.one (.slice insA ins.length insc), .one (.slice outsA outs.length outsc), .one (.int .u32 after)]]) (fun i => i ≤ outs.length) (fun i => outs.length - i) 0 rfl (by simp only [sumO, List.take_zero, List.map_nil, List.sum_nil, Int.ofNat_zero, Int.add_zero]; exact (by repeat (first | exact trivial | refine ⟨rfl, ?_⟩))) (eb Ent.nil) (by omega) (fun i hi => ?_)
    have := b1 i
    by_cases hlt : i < outs.length
    · have hs : sumO (outs.take (i + 1)) = sumO (outs.take i) + (ixd outs i).lock.length := sum_take hlt
      have := b1 (i + 1)
      repeat' (first
       | (refine kO ?_; first | refine gv rfl rfl ?_ | refine gnil ?_ | refine gl rfl (lvb rfl rfl) rfl (fun _ => ?_) | refine gl rfl (lvB rfl rfl rfl) rfl (fun _ => ?_) | refine gl rfl (lve rfl rfl) rfl (fun _ => ?_) | refine gl rfl (lvE rfl rfl rfl) rfl (fun _ => ?_) | refine gl rfl (lva rfl rfl rfl rfl rfl) rfl (fun _ => ?_) | refine gp rfl (by (try simp only [InR]); omega) rfl ?_ | refine gf rfl rfl rfl ?_ | refine gix rfl rfl rfl rfl (by omega) rfl (fun _ => ?_) | refine gixa rfl rfl rfl rfl (by omega) rfl (fun _ => ?_) | (refine kK ?_; first | refine gcall rfl ?_ rfl (fun _ _ => ?_) (fun _ _ => ?_) | refine gcv rfl rfl ?_ rfl (fun _ _ => ?_) (fun _ _ => ?_)) | refine gx rfl rfl (fun _ => ?_) (fun _ => ?_) | refine gw rfl rfl ?_)
       | (refine kC ?_; first | refine gseq ?_ | refine greg ?_ | refine gret ?_ | refine gskip ?_ | (refine gcond rfl (fun h => ?_) (fun h => ?_) <;> (first | exact h.elim | (exfalso; omega) | skip)) | refine gblk ?_ | refine gexit ?_)
       | (refine kN ?_; first | refine gthen ?_ | refine gnblk ?_)
       | (refine kR ?_; first | refine grs ?_ | refine grb ?_ | refine grl ?_ | refine grc ?_)
       | (refine kX ?_; first | refine gxs ?_ | refine gxb ?_ | refine gxn rfl ?_ | refine gxl ?_ | refine gxc ?_)
       | (refine kR ?_; refine gr rfl (rvT rfl rv0) (_) rfl Ent.nil ?_)
       | (refine Pre.mk ?_; first | exact True.intro | omega | ((repeat' (first | refine And.intro ?_ ?_ | assumption | omega)); done))
       | (refine kD ?_; first | exact dm_none))
      refine gnl (i + 1) ?_ (eb Ent.nil) (by omega) (by omega)
      rw [hs, Int.natCast_add, ← Int.add_assoc]; exact (by repeat (first | exact trivial | refine ⟨rfl, ?_⟩))
    · obtain rfl : i = outs.length := by omega
      rw [List.take_length]
      repeat' (first
       | (refine kO ?_; first | refine gv rfl rfl ?_ | refine gnil ?_ | refine gl rfl (lvb rfl rfl) rfl (fun _ => ?_) | refine gl rfl (lvB rfl rfl rfl) rfl (fun _ => ?_) | refine gl rfl (lve rfl rfl) rfl (fun _ => ?_) | refine gl rfl (lvE rfl rfl rfl) rfl (fun _ => ?_) | refine gl rfl (lva rfl rfl rfl rfl rfl) rfl (fun _ => ?_) | refine gp rfl (by (try simp only [InR]); omega) rfl ?_ | refine gf rfl rfl rfl ?_ | refine gix rfl rfl rfl rfl (by omega) rfl (fun _ => ?_) | refine gixa rfl rfl rfl rfl (by omega) rfl (fun _ => ?_) | (refine kK ?_; first | refine gcall rfl ?_ rfl (fun _ _ => ?_) (fun _ _ => ?_) | refine gcv rfl rfl ?_ rfl (fun _ _ => ?_) (fun _ _ => ?_)) | refine gx rfl rfl (fun _ => ?_) (fun _ => ?_) | refine gw rfl rfl ?_)
       | (refine kC ?_; first | refine gseq ?_ | refine greg ?_ | refine gret ?_ | refine gskip ?_ | (refine gcond rfl (fun h => ?_) (fun h => ?_) <;> (first | exact h.elim | (exfalso; omega) | skip)) | refine gblk ?_ | refine gexit ?_)
       | (refine kN ?_; first | refine gthen ?_ | refine gnblk ?_)
       | (refine kR ?_; first | refine grs ?_ | refine grb ?_ | refine grl ?_ | refine grc ?_)
       | (refine kX ?_; first | refine gxs ?_ | refine gxb ?_ | refine gxn rfl ?_ | refine gxl ?_ | refine gxc ?_)
       | (refine kR ?_; refine gr rfl (rvT rfl rv0) (_) rfl Ent.nil ?_)
       | (refine Pre.mk ?_; first | exact True.intro | omega | ((repeat' (first | refine And.intro ?_ ?_ | assumption | omega)); done))
       | (refine kD ?_; first | exact dm_none))
      rw [decide_eq_decide]; omega
instance c_law07_great {insA : Option Addr} {insc insn : Nat} {ins : List InG} {outsA : Option Addr} {outsc outsn : Nat} {outs : List OutG} {after : Int} {w0 : World} {X : Nat → Prop} {L : List Assn} [hins : Rw w0 X L (.slice insA insn insc) RIn ins] [q_ins : InsR w0 X L ins] [houts : Rw w0 X L (.slice outsA outsn outsc) ROut outs] [q_outs : OutsR w0 X L outs] : Ctr Tryd.prog 18 [Ag [.one (.slice insA insn insc), .one (.slice outsA outsn outsc), .one (.int .u32 after)]] w0 X L (ins.length ≤ 1099511627776 ∧ outs.length ≤ 1099511627776 ∧ sumI ins ≤ 1099511627776 ∧ sumO outs ≤ 1099511627776) (fun _ : Unit => .bool (decide (20000 < 40 * (ins.length + outs.length) + sumI ins + sumO outs))) (fun _ : Unit => L) (fun _ : Unit => True) :=
  ctr' (M' := (fun _ : Unit => [])) (by kernel_rfl) (fun hp w hw => by have eins := hins.len hw; subst eins; have eouts := houts.len hw; subst eouts; exact law07_great _ _ _ _ _ _ _ w (hins.get w hw) (q_ins.get w hw) (houts.get w hw) (q_outs.get w hw) hp) (by rintro hp e0 rfl ok; exact ⟨(), rfl, rfl, trivial⟩)
end Go.Proofs.YtdbikdbogpofbaaDoor
