/-
  moneyerref02.Twice: contracts.
-/
import Derived.Test.YtkjpemkankefnaaDoorVref02
set_option linter.all false
set_option maxRecDepth 100000
set_option maxHeartbeats 4000000
namespace Go.Proofs.YtkjpemkankefnaaDoor
open Go.RowKit

theorem ref02_List (x : List UInt8) [hx : LenIs x 32] (w0 : World)   :
    Ct Tryd.prog 95 [Ag [.blk 32 (RB.all x)]] w0 no (fun ((⟨s0, n0, x0⟩) : Br UInt8) => .slice s0.A n0 s0.c) (fun (⟨s0, n0, x0⟩) => [rw_ 5 RB s0 n0 x0]) (fun (⟨s0, n0, x0⟩) => x0 = (x)) := by
  have hst := St.start w0
  refine genter _ hst Tryd.func95 rfl rfl rfl rfl ?_
  have hxl := hx.h
  repeat' (first
   | (refine kO ?_; first | refine gv rfl rfl ?_ | refine gnil ?_ | refine gl rfl (lvb rfl rfl) rfl (fun _ => ?_) | refine gl rfl (lvB rfl rfl rfl) rfl (fun _ => ?_) | refine gl rfl (lve rfl rfl) rfl (fun _ => ?_) | refine gl rfl (lvE rfl rfl rfl) rfl (fun _ => ?_) | refine gl rfl (lva rfl rfl rfl rfl rfl) rfl (fun _ => ?_) | refine gp rfl (by (try simp only [InR]); omega) rfl ?_ | refine gix rfl rfl rfl rfl (by omega) rfl (fun _ => ?_) | refine gixa rfl rfl rfl rfl (by omega) rfl (fun _ => ?_) | (refine kK ?_; first | refine gcall rfl ?_ rfl (fun _ _ => ?_) (fun _ _ => ?_) | refine gcv rfl rfl ?_ rfl (fun _ _ => ?_) (fun _ _ => ?_) | refine gcc1 rfl rfl ?_ rfl (fun _ _ => ?_) (fun _ _ => ?_)) | refine gx rfl rfl (fun _ => ?_) (fun _ => ?_) | refine gap rfl rfl rfl (by omega) rfl (fun _ => ?_) (fun _ => ?_) | refine gan rfl rfl rfl (by omega) rfl (fun _ => ?_) (fun _ => ?_) | refine gapz rfl rfl rfl rfl (by omega) rfl (fun _ => ?_) (fun _ => ?_) | refine ganz rfl rfl rfl rfl (by omega) rfl (fun _ => ?_) (fun _ => ?_) | refine gbs RB rfl rfl rfl rfl rfl rfl (fun _ => ?_) (fun _ => ?_) | refine gbb rfl rfl rfl (by first | (simp; done) | (simp only [and_true]; omega)) rfl rfl rfl rfl (fun _ => ?_) (fun _ => ?_) | refine gw rfl rfl ?_)
   | (refine kC ?_; first | refine gseq ?_ | refine greg ?_ | refine gret ?_ | refine gskip ?_ | (refine gcond rfl (fun h => ?_) (fun h => ?_) <;> (first | exact h.elim | (exfalso; omega) | exact absurd h (by assumption) | exact absurd (by assumption) h | skip)) | refine gblk ?_ | refine gexit ?_)
   | (refine kN ?_; first | refine gthen ?_ | refine gnblk ?_)
   | (refine kR ?_; first | refine grs ?_ | refine grb ?_ | refine grl ?_ | refine grc ?_)
   | (refine kX ?_; first | refine gxs ?_ | refine gxb ?_ | refine gxn rfl ?_ | refine gxl ?_ | refine gxc ?_)
   | (refine kR ?_; refine gr rfl (rvT rfl rv0) (⟨_, _, _⟩) rfl (er Ent.nil) ?_)
   | (refine kR ?_; refine gr rfl (rvT rfl rv0) (⟨⟨none, 0⟩, 0, []⟩) rfl (er0 Ent.nil) ?_)
   | (refine Pre.mk ?_; first | exact True.intro | omega | ((repeat' (first | refine And.intro ?_ ?_ | exact True.intro | assumption | omega)); done) | (simp only [and_true, true_and, or_true, true_or]; first | done | omega))
   | (refine kD ?_; first | exact dm_none))
  rename_i g
  refine gloop2 [1] (fun (i : Nat) (s : Sv) K => (3, .slice s.A i s.c) :: (4, .int .i64 i) :: K) (fun i s => [rw_ 5 RB s i (x.take i), boxA g 25 [.blk 32 (RB.all x)]]) (fun i s => i ≤ 32) (fun i s => 32 - i) 0 ⟨none, 0⟩ rfl (by repeat (first | exact trivial | refine ⟨rfl, ?_⟩)) (er0 (eb Ent.nil)) (by omega) (fun i s hi => ?_)
  by_cases hlt : i < 32
  · skip
    repeat' (first
     | (refine kO ?_; first | refine gv rfl rfl ?_ | refine gnil ?_ | refine gl rfl (lvb rfl rfl) rfl (fun _ => ?_) | refine gl rfl (lvB rfl rfl rfl) rfl (fun _ => ?_) | refine gl rfl (lve rfl rfl) rfl (fun _ => ?_) | refine gl rfl (lvE rfl rfl rfl) rfl (fun _ => ?_) | refine gl rfl (lva rfl rfl rfl rfl rfl) rfl (fun _ => ?_) | refine gp rfl (by (try simp only [InR]); omega) rfl ?_ | refine gix rfl rfl rfl rfl (by omega) rfl (fun _ => ?_) | refine gixa rfl rfl rfl rfl (by omega) rfl (fun _ => ?_) | (refine kK ?_; first | refine gcall rfl ?_ rfl (fun _ _ => ?_) (fun _ _ => ?_) | refine gcv rfl rfl ?_ rfl (fun _ _ => ?_) (fun _ _ => ?_) | refine gcc1 rfl rfl ?_ rfl (fun _ _ => ?_) (fun _ _ => ?_)) | refine gx rfl rfl (fun _ => ?_) (fun _ => ?_) | refine gap rfl rfl rfl (by omega) rfl (fun _ => ?_) (fun _ => ?_) | refine gan rfl rfl rfl (by omega) rfl (fun _ => ?_) (fun _ => ?_) | refine gapz rfl rfl rfl rfl (by omega) rfl (fun _ => ?_) (fun _ => ?_) | refine ganz rfl rfl rfl rfl (by omega) rfl (fun _ => ?_) (fun _ => ?_) | refine gbs RB rfl rfl rfl rfl rfl rfl (fun _ => ?_) (fun _ => ?_) | refine gbb rfl rfl rfl (by first | (simp; done) | (simp only [and_true]; omega)) rfl rfl rfl rfl (fun _ => ?_) (fun _ => ?_) | refine gw rfl rfl ?_)
     | (refine kC ?_; first | refine gseq ?_ | refine greg ?_ | refine gret ?_ | refine gskip ?_ | (refine gcond rfl (fun h => ?_) (fun h => ?_) <;> (first | exact h.elim | (exfalso; omega) | exact absurd h (by assumption) | exact absurd (by assumption) h | skip)) | refine gblk ?_ | refine gexit ?_)
     | (refine kN ?_; first | refine gthen ?_ | refine gnblk ?_)
     | (refine kR ?_; first | refine grs ?_ | refine grb ?_ | refine grl ?_ | refine grc ?_)
     | (refine kX ?_; first | refine gxs ?_ | refine gxb ?_ | refine gxn rfl ?_ | refine gxl ?_ | refine gxc ?_)
     | (refine kR ?_; refine gr rfl (rvT rfl rv0) (⟨_, _, _⟩) rfl (er Ent.nil) ?_)
     | (refine kR ?_; refine gr rfl (rvT rfl rv0) (⟨⟨none, 0⟩, 0, []⟩) rfl (er0 Ent.nil) ?_)
     | (refine Pre.mk ?_; first | exact True.intro | omega | ((repeat' (first | refine And.intro ?_ ?_ | exact True.intro | assumption | omega)); done) | (simp only [and_true, true_and, or_true, true_or]; first | done | omega))
     | (refine kD ?_; first | exact dm_none))
    rename_i s'
    refine gnl2 (i + 1) s' (by repeat (first | exact trivial | refine ⟨rfl, ?_⟩)) ?_ (by omega) (by omega)
    have e : ixd x (i : Int) = x[i] := by rw [ixd_eq (by simp; omega)]; simp
    rw [List.take_succ_eq_append_getElem (by omega), ← e]
    exact er (eb Ent.nil)
  · obtain rfl : i = 32 := by omega
    repeat' (first
     | (refine kO ?_; first | refine gv rfl rfl ?_ | refine gnil ?_ | refine gl rfl (lvb rfl rfl) rfl (fun _ => ?_) | refine gl rfl (lvB rfl rfl rfl) rfl (fun _ => ?_) | refine gl rfl (lve rfl rfl) rfl (fun _ => ?_) | refine gl rfl (lvE rfl rfl rfl) rfl (fun _ => ?_) | refine gl rfl (lva rfl rfl rfl rfl rfl) rfl (fun _ => ?_) | refine gp rfl (by (try simp only [InR]); omega) rfl ?_ | refine gix rfl rfl rfl rfl (by omega) rfl (fun _ => ?_) | refine gixa rfl rfl rfl rfl (by omega) rfl (fun _ => ?_) | (refine kK ?_; first | refine gcall rfl ?_ rfl (fun _ _ => ?_) (fun _ _ => ?_) | refine gcv rfl rfl ?_ rfl (fun _ _ => ?_) (fun _ _ => ?_) | refine gcc1 rfl rfl ?_ rfl (fun _ _ => ?_) (fun _ _ => ?_)) | refine gx rfl rfl (fun _ => ?_) (fun _ => ?_) | refine gap rfl rfl rfl (by omega) rfl (fun _ => ?_) (fun _ => ?_) | refine gan rfl rfl rfl (by omega) rfl (fun _ => ?_) (fun _ => ?_) | refine gapz rfl rfl rfl rfl (by omega) rfl (fun _ => ?_) (fun _ => ?_) | refine ganz rfl rfl rfl rfl (by omega) rfl (fun _ => ?_) (fun _ => ?_) | refine gbs RB rfl rfl rfl rfl rfl rfl (fun _ => ?_) (fun _ => ?_) | refine gbb rfl rfl rfl (by first | (simp; done) | (simp only [and_true]; omega)) rfl rfl rfl rfl (fun _ => ?_) (fun _ => ?_) | refine gw rfl rfl ?_)
     | (refine kC ?_; first | refine gseq ?_ | refine greg ?_ | refine gret ?_ | refine gskip ?_ | (refine gcond rfl (fun h => ?_) (fun h => ?_) <;> (first | exact h.elim | (exfalso; omega) | exact absurd h (by assumption) | exact absurd (by assumption) h | skip)) | refine gblk ?_ | refine gexit ?_)
     | (refine kN ?_; first | refine gthen ?_ | refine gnblk ?_)
     | (refine kR ?_; first | refine grs ?_ | refine grb ?_ | refine grl ?_ | refine grc ?_)
     | (refine kX ?_; first | refine gxs ?_ | refine gxb ?_ | refine gxn rfl ?_ | refine gxl ?_ | refine gxc ?_)
     | (refine kR ?_; refine gr rfl (rvT rfl rv0) (⟨_, _, _⟩) rfl (er Ent.nil) ?_)
     | (refine kR ?_; refine gr rfl (rvT rfl rv0) (⟨⟨none, 0⟩, 0, []⟩) rfl (er0 Ent.nil) ?_)
     | (refine Pre.mk ?_; first | exact True.intro | omega | ((repeat' (first | refine And.intro ?_ ?_ | exact True.intro | assumption | omega)); done) | (simp only [and_true, true_and, or_true, true_or]; first | done | omega))
     | (refine kD ?_; first | exact dm_none))
    exact List.take_of_length_le (by omega)
instance c_ref02_List {x : List UInt8} {w0 : World} {X : Nat → Prop} {L : List Assn} [hx : LenIs x 32] : Ctr Tryd.prog 95 [Ag [.blk 32 (RB.all x)]] w0 X L (True) (fun s0 : Sv => .slice s0.A (x).length s0.c) (fun s0 : Sv => rw_ 5 RB s0 (x).length (x) :: L) (fun s0 : Sv => True) :=
  ctr' (M' := (fun s0 : Sv => [rw_ 5 RB s0 (x).length (x)])) (by kernel_rfl) (fun hp w hw => by exact ref02_List _ w) (by rintro hp ⟨s0, n0, x0⟩ rfl ok; cases ok.row; exact ⟨s0, rfl, rfl, trivial⟩)
theorem ref02_Padded (lA : Option Addr) (lc : Nat) (l : List UInt8) (w0 : World) (hl : Slr w0 RB (.slice lA l.length lc) l) (hp : l.length ≤ 140737488351232) :
    Ct Tryd.prog 93 [.slice lA l.length lc] w0 no (fun ((⟨s0, n0, x0⟩) : Br UInt8) => .slice s0.A n0 s0.c) (fun (⟨s0, n0, x0⟩) => [rw_ 5 RB s0 n0 x0]) (fun (⟨s0, n0, x0⟩) => x0 = (padL l)) := by
  have hst := St.start w0
  have i_l := Rw.old hl
  refine genter _ hst Tryd.func93 rfl rfl rfl rfl ?_
  have hpn : padN l.length ≤ 63 := by unfold padN; omega
  repeat' (first
   | (refine kO ?_; first | refine gv rfl rfl ?_ | refine gnil ?_ | refine gp rfl (by (try simp only [InR]); omega) rfl ?_ | refine gsh rfl (by (try simp only [InR]); omega) rfl ?_ | refine gsv rfl (by (try simp only [InR, InSh]); omega) rfl ?_ | (refine kK ?_; first | refine gcall rfl ?_ rfl (fun _ _ => ?_) (fun _ _ => ?_) | refine gcv rfl rfl ?_ rfl (fun _ _ => ?_) (fun _ _ => ?_) | refine gcc1 rfl rfl ?_ rfl (fun _ _ => ?_) (fun _ _ => ?_)) | refine gneq rfl rfl (by kernel_rfl) ?_ rfl ?_ | refine gap rfl rfl rfl (by omega) rfl (fun _ => ?_) (fun _ => ?_) | refine gan rfl rfl rfl (by omega) rfl (fun _ => ?_) (fun _ => ?_) | refine gapz rfl rfl rfl rfl (by omega) rfl (fun _ => ?_) (fun _ => ?_) | refine ganz rfl rfl rfl rfl (by omega) rfl (fun _ => ?_) (fun _ => ?_) | refine gbs RB rfl rfl rfl rfl rfl rfl (fun _ => ?_) (fun _ => ?_) | refine gbb rfl rfl rfl (by first | (simp; done) | (simp only [and_true]; omega)) rfl rfl rfl rfl (fun _ => ?_) (fun _ => ?_) | refine gb rfl rfl rfl rfl ?_ | refine gss rfl (by (try simp only [InR, InSh]); omega) rfl ?_ | refine gw rfl rfl ?_)
   | (refine kC ?_; first | refine gseq ?_ | refine greg ?_ | refine gret ?_ | refine gskip ?_ | (refine gcond rfl (fun h => ?_) (fun h => ?_) <;> (first | exact h.elim | (exfalso; omega) | exact absurd h (by assumption) | exact absurd (by assumption) h | skip)) | refine gblk ?_ | refine gexit ?_)
   | (refine kN ?_; first | refine gthen ?_ | refine gnblk ?_)
   | (refine kR ?_; first | refine grs ?_ | refine grb ?_ | refine grl ?_ | refine grc ?_)
   | (refine kX ?_; first | refine gxs ?_ | refine gxb ?_ | refine gxn rfl ?_ | refine gxl ?_ | refine gxc ?_)
   | (refine kR ?_; refine gr rfl (rvT rfl rv0) (⟨_, _, _⟩) rfl (er Ent.nil) ?_)
   | (refine kR ?_; refine gr rfl (rvT rfl rv0) (⟨⟨none, 0⟩, 0, []⟩) rfl (er0 Ent.nil) ?_)
   | (refine Pre.mk ?_; first | exact True.intro | omega | ((repeat' (first | refine And.intro ?_ ?_ | exact True.intro | assumption | omega)); done) | (simp only [and_true, true_and, or_true, true_or]; first | done | omega))
   | (refine kD ?_; first | exact dm_none))
  rename_i s1 s2 s3
  refine gloop2 [0] (fun (i : Nat) (s : Sv) K => (3, .slice s.A (l.length + 1 + i) s.c) :: K) (fun i s => [rw_ 5 RB s (l.length + 1 + i) (l ++ [u8 128] ++ List.replicate i (u8 0))]) (fun i s => i ≤ padN l.length) (fun i s => padN l.length - i) 0 s3 rfl (by repeat (first | exact trivial | refine ⟨rfl, ?_⟩)) (by rw [List.replicate_zero, List.append_nil]; exact er Ent.nil) (by omega) (fun i s hi => ?_)
  by_cases hlt : i < padN l.length
  · have hne : ¬ (((l.length + 1 + i : Nat) : Int) % 64 = 56) := by unfold padN at *; omega
    repeat' (first
     | (refine kO ?_; first | refine gv rfl rfl ?_ | refine gnil ?_ | refine gp rfl (by (try simp only [InR]); omega) rfl ?_ | refine gsh rfl (by (try simp only [InR]); omega) rfl ?_ | refine gsv rfl (by (try simp only [InR, InSh]); omega) rfl ?_ | (refine kK ?_; first | refine gcall rfl ?_ rfl (fun _ _ => ?_) (fun _ _ => ?_) | refine gcv rfl rfl ?_ rfl (fun _ _ => ?_) (fun _ _ => ?_) | refine gcc1 rfl rfl ?_ rfl (fun _ _ => ?_) (fun _ _ => ?_)) | refine gneq rfl rfl (by kernel_rfl) ?_ rfl ?_ | refine gap rfl rfl rfl (by omega) rfl (fun _ => ?_) (fun _ => ?_) | refine gan rfl rfl rfl (by omega) rfl (fun _ => ?_) (fun _ => ?_) | refine gapz rfl rfl rfl rfl (by omega) rfl (fun _ => ?_) (fun _ => ?_) | refine ganz rfl rfl rfl rfl (by omega) rfl (fun _ => ?_) (fun _ => ?_) | refine gbs RB rfl rfl rfl rfl rfl rfl (fun _ => ?_) (fun _ => ?_) | refine gbb rfl rfl rfl (by first | (simp; done) | (simp only [and_true]; omega)) rfl rfl rfl rfl (fun _ => ?_) (fun _ => ?_) | refine gb rfl rfl rfl rfl ?_ | refine gss rfl (by (try simp only [InR, InSh]); omega) rfl ?_ | refine gw rfl rfl ?_)
     | (refine kC ?_; first | refine gseq ?_ | refine greg ?_ | refine gret ?_ | refine gskip ?_ | (refine gcond rfl (fun h => ?_) (fun h => ?_) <;> (first | exact h.elim | (exfalso; omega) | exact absurd h (by assumption) | exact absurd (by assumption) h | skip)) | refine gblk ?_ | refine gexit ?_)
     | (refine kN ?_; first | refine gthen ?_ | refine gnblk ?_)
     | (refine kR ?_; first | refine grs ?_ | refine grb ?_ | refine grl ?_ | refine grc ?_)
     | (refine kX ?_; first | refine gxs ?_ | refine gxb ?_ | refine gxn rfl ?_ | refine gxl ?_ | refine gxc ?_)
     | (refine kR ?_; refine gr rfl (rvT rfl rv0) (⟨_, _, _⟩) rfl (er Ent.nil) ?_)
     | (refine kR ?_; refine gr rfl (rvT rfl rv0) (⟨⟨none, 0⟩, 0, []⟩) rfl (er0 Ent.nil) ?_)
     | (refine Pre.mk ?_; first | exact True.intro | omega | ((repeat' (first | refine And.intro ?_ ?_ | exact True.intro | assumption | omega)); done) | (simp only [and_true, true_and, or_true, true_or]; first | done | omega))
     | (refine kD ?_; first | exact dm_none))
    rename_i s'
    refine gnl2 (i + 1) s' (by repeat (first | exact trivial | refine ⟨rfl, ?_⟩)) ?_ (by omega) (by omega)
    rw [List.replicate_succ', ← List.append_assoc]
    exact er Ent.nil
  · obtain rfl : i = padN l.length := by omega
    have hne : ((l.length + 1 + padN l.length : Nat) : Int) % 64 = 56 := by unfold padN at *; omega
    repeat' (first
     | (refine kO ?_; first | refine gv rfl rfl ?_ | refine gnil ?_ | refine gp rfl (by (try simp only [InR]); omega) rfl ?_ | refine gsh rfl (by (try simp only [InR]); omega) rfl ?_ | refine gsv rfl (by (try simp only [InR, InSh]); omega) rfl ?_ | (refine kK ?_; first | refine gcall rfl ?_ rfl (fun _ _ => ?_) (fun _ _ => ?_) | refine gcv rfl rfl ?_ rfl (fun _ _ => ?_) (fun _ _ => ?_) | refine gcc1 rfl rfl ?_ rfl (fun _ _ => ?_) (fun _ _ => ?_)) | refine gneq rfl rfl (by kernel_rfl) ?_ rfl ?_ | refine gap rfl rfl rfl (by omega) rfl (fun _ => ?_) (fun _ => ?_) | refine gan rfl rfl rfl (by omega) rfl (fun _ => ?_) (fun _ => ?_) | refine gapz rfl rfl rfl rfl (by omega) rfl (fun _ => ?_) (fun _ => ?_) | refine ganz rfl rfl rfl rfl (by omega) rfl (fun _ => ?_) (fun _ => ?_) | refine gbs RB rfl rfl rfl rfl rfl rfl (fun _ => ?_) (fun _ => ?_) | refine gbb rfl rfl rfl (by first | (simp; done) | (simp only [and_true]; omega)) rfl rfl rfl rfl (fun _ => ?_) (fun _ => ?_) | refine gb rfl rfl rfl rfl ?_ | refine gss rfl (by (try simp only [InR, InSh]); omega) rfl ?_ | refine gw rfl rfl ?_)
     | (refine kC ?_; first | refine gseq ?_ | refine greg ?_ | refine gret ?_ | refine gskip ?_ | (refine gcond rfl (fun h => ?_) (fun h => ?_) <;> (first | exact h.elim | (exfalso; omega) | exact absurd h (by assumption) | exact absurd (by assumption) h | skip)) | refine gblk ?_ | refine gexit ?_)
     | (refine kN ?_; first | refine gthen ?_ | refine gnblk ?_)
     | (refine kR ?_; first | refine grs ?_ | refine grb ?_ | refine grl ?_ | refine grc ?_)
     | (refine kX ?_; first | refine gxs ?_ | refine gxb ?_ | refine gxn rfl ?_ | refine gxl ?_ | refine gxc ?_)
     | (refine kR ?_; refine gr rfl (rvT rfl rv0) (⟨_, _, _⟩) rfl (er Ent.nil) ?_)
     | (refine kR ?_; refine gr rfl (rvT rfl rv0) (⟨⟨none, 0⟩, 0, []⟩) rfl (er0 Ent.nil) ?_)
     | (refine Pre.mk ?_; first | exact True.intro | omega | ((repeat' (first | refine And.intro ?_ ?_ | exact True.intro | assumption | omega)); done) | (simp only [and_true, true_and, or_true, true_or]; first | done | omega))
     | (refine kD ?_; first | exact dm_none))
    have hh := highL_len (8 * (l.length : Int)) 8
    refine gloop2 [4] (fun (i : Nat) (s : Sv) K => (3, .slice s.A (l.length + 1 + padN l.length + i) s.c) :: (5, .int .i64 i) :: K) (fun i s => [rw_ 5 RB s (l.length + 1 + padN l.length + i) (l ++ [u8 128] ++ List.replicate (padN l.length) (u8 0) ++ (highL (8 * (l.length : Int)) 8).take i)]) (fun i s => i ≤ 8) (fun i s => 8 - i) 0 s rfl (by repeat (first | exact trivial | refine ⟨rfl, ?_⟩)) (by rw [List.take_zero, List.append_nil]; exact er Ent.nil) (by omega) (fun i s hi => ?_)
    by_cases hlt : i < 8
    · skip
      repeat' (first
       | (refine kO ?_; first | refine gv rfl rfl ?_ | refine gnil ?_ | refine gp rfl (by (try simp only [InR]); omega) rfl ?_ | refine gsh rfl (by (try simp only [InR]); omega) rfl ?_ | refine gsv rfl (by (try simp only [InR, InSh]); omega) rfl ?_ | (refine kK ?_; first | refine gcall rfl ?_ rfl (fun _ _ => ?_) (fun _ _ => ?_) | refine gcv rfl rfl ?_ rfl (fun _ _ => ?_) (fun _ _ => ?_) | refine gcc1 rfl rfl ?_ rfl (fun _ _ => ?_) (fun _ _ => ?_)) | refine gneq rfl rfl (by kernel_rfl) ?_ rfl ?_ | refine gap rfl rfl rfl (by omega) rfl (fun _ => ?_) (fun _ => ?_) | refine gan rfl rfl rfl (by omega) rfl (fun _ => ?_) (fun _ => ?_) | refine gapz rfl rfl rfl rfl (by omega) rfl (fun _ => ?_) (fun _ => ?_) | refine ganz rfl rfl rfl rfl (by omega) rfl (fun _ => ?_) (fun _ => ?_) | refine gbs RB rfl rfl rfl rfl rfl rfl (fun _ => ?_) (fun _ => ?_) | refine gbb rfl rfl rfl (by first | (simp; done) | (simp only [and_true]; omega)) rfl rfl rfl rfl (fun _ => ?_) (fun _ => ?_) | refine gb rfl rfl rfl rfl ?_ | refine gss rfl (by (try simp only [InR, InSh]); omega) rfl ?_ | refine gw rfl rfl ?_)
       | (refine kC ?_; first | refine gseq ?_ | refine greg ?_ | refine gret ?_ | refine gskip ?_ | (refine gcond rfl (fun h => ?_) (fun h => ?_) <;> (first | exact h.elim | (exfalso; omega) | exact absurd h (by assumption) | exact absurd (by assumption) h | skip)) | refine gblk ?_ | refine gexit ?_)
       | (refine kN ?_; first | refine gthen ?_ | refine gnblk ?_)
       | (refine kR ?_; first | refine grs ?_ | refine grb ?_ | refine grl ?_ | refine grc ?_)
       | (refine kX ?_; first | refine gxs ?_ | refine gxb ?_ | refine gxn rfl ?_ | refine gxl ?_ | refine gxc ?_)
       | (refine kR ?_; refine gr rfl (rvT rfl rv0) (⟨_, _, _⟩) rfl (er Ent.nil) ?_)
       | (refine kR ?_; refine gr rfl (rvT rfl rv0) (⟨⟨none, 0⟩, 0, []⟩) rfl (er0 Ent.nil) ?_)
       | (refine Pre.mk ?_; first | exact True.intro | omega | ((repeat' (first | refine And.intro ?_ ?_ | exact True.intro | assumption | omega)); done) | (simp only [and_true, true_and, or_true, true_or]; first | done | omega))
       | (refine kD ?_; first | exact dm_none))
      rename_i s'
      refine gnl2 (i + 1) s' (by repeat (first | exact trivial | refine ⟨rfl, ?_⟩)) ?_ (by omega) (by omega)
      have e : (highL (8 * (l.length : Int)) 8)[i]'(by omega) = u8 (8 * (l.length : Int) / 2 ^ (56 - 8 * (i : Int)).toNat) := by
        simp only [highL, List.getElem_map, List.getElem_range]
        congr 3; omega
      rw [List.take_succ_eq_append_getElem (by omega), ← List.append_assoc, e]
      exact er Ent.nil
    · obtain rfl : i = 8 := by omega
      repeat' (first
       | (refine kO ?_; first | refine gv rfl rfl ?_ | refine gnil ?_ | refine gp rfl (by (try simp only [InR]); omega) rfl ?_ | refine gsh rfl (by (try simp only [InR]); omega) rfl ?_ | refine gsv rfl (by (try simp only [InR, InSh]); omega) rfl ?_ | (refine kK ?_; first | refine gcall rfl ?_ rfl (fun _ _ => ?_) (fun _ _ => ?_) | refine gcv rfl rfl ?_ rfl (fun _ _ => ?_) (fun _ _ => ?_) | refine gcc1 rfl rfl ?_ rfl (fun _ _ => ?_) (fun _ _ => ?_)) | refine gneq rfl rfl (by kernel_rfl) ?_ rfl ?_ | refine gap rfl rfl rfl (by omega) rfl (fun _ => ?_) (fun _ => ?_) | refine gan rfl rfl rfl (by omega) rfl (fun _ => ?_) (fun _ => ?_) | refine gapz rfl rfl rfl rfl (by omega) rfl (fun _ => ?_) (fun _ => ?_) | refine ganz rfl rfl rfl rfl (by omega) rfl (fun _ => ?_) (fun _ => ?_) | refine gbs RB rfl rfl rfl rfl rfl rfl (fun _ => ?_) (fun _ => ?_) | refine gbb rfl rfl rfl (by first | (simp; done) | (simp only [and_true]; omega)) rfl rfl rfl rfl (fun _ => ?_) (fun _ => ?_) | refine gb rfl rfl rfl rfl ?_ | refine gss rfl (by (try simp only [InR, InSh]); omega) rfl ?_ | refine gw rfl rfl ?_)
       | (refine kC ?_; first | refine gseq ?_ | refine greg ?_ | refine gret ?_ | refine gskip ?_ | (refine gcond rfl (fun h => ?_) (fun h => ?_) <;> (first | exact h.elim | (exfalso; omega) | exact absurd h (by assumption) | exact absurd (by assumption) h | skip)) | refine gblk ?_ | refine gexit ?_)
       | (refine kN ?_; first | refine gthen ?_ | refine gnblk ?_)
       | (refine kR ?_; first | refine grs ?_ | refine grb ?_ | refine grl ?_ | refine grc ?_)
       | (refine kX ?_; first | refine gxs ?_ | refine gxb ?_ | refine gxn rfl ?_ | refine gxl ?_ | refine gxc ?_)
       | (refine kR ?_; refine gr rfl (rvT rfl rv0) (⟨_, _, _⟩) rfl (er Ent.nil) ?_)
       | (refine kR ?_; refine gr rfl (rvT rfl rv0) (⟨⟨none, 0⟩, 0, []⟩) rfl (er0 Ent.nil) ?_)
       | (refine Pre.mk ?_; first | exact True.intro | omega | ((repeat' (first | refine And.intro ?_ ?_ | exact True.intro | assumption | omega)); done) | (simp only [and_true, true_and, or_true, true_or]; first | done | omega))
       | (refine kD ?_; first | exact dm_none))
      rw [List.take_of_length_le (by omega)]; rfl
instance c_ref02_Padded {lA : Option Addr} {lc ln : Nat} {l : List UInt8} {w0 : World} {X : Nat → Prop} {L : List Assn} [hl : Rw w0 X L (.slice lA ln lc) RB l] : Ctr Tryd.prog 93 [.slice lA ln lc] w0 X L (l.length ≤ 140737488351232) (fun s0 : Sv => .slice s0.A (padL l).length s0.c) (fun s0 : Sv => rw_ 5 RB s0 (padL l).length (padL l) :: L) (fun s0 : Sv => True) :=
  ctr' (M' := (fun s0 : Sv => [rw_ 5 RB s0 (padL l).length (padL l)])) (by kernel_rfl) (fun hp w hw => by have el := hl.len hw; subst el; exact ref02_Padded _ _ _ w (hl.get w hw) hp) (by rintro hp ⟨s0, n0, x0⟩ rfl ok; cases ok.row; exact ⟨s0, rfl, rfl, trivial⟩)
@[reducible] def hashC : List Cs := [.blk 8 (RW.all shaB), .blk 64 (RW.all shaK)]
instance : ZS Tryd.prog 118 [.blk 8 (RW.all (List.replicate 8 (u32 0))), .blk 64 (RW.all (List.replicate 64 (u32 0)))] := ⟨by kernel_rfl, by kernel_rfl, by kernel_rfl, trivial⟩
theorem ref02_New (w0 : World) : Ct Tryd.prog 87 [] w0 no (fun g : Nat => .pointer (some ⟨g, 0, none⟩)) (fun g => [boxA g 118 hashC]) (fun _ => True) := by
  have hst := St.start w0
  refine genter _ hst Tryd.func87 rfl rfl rfl rfl ?_
  repeat' (first
   | (refine kO ?_; first | refine gbarr RW shaB rfl rfl rfl rfl (wordsE_ok rfl) rfl rfl ?_ | refine gbarr RW shaK rfl rfl rfl rfl (wordsE_ok rfl) rfl rfl ?_ | refine gv rfl rfl ?_ | refine gnil ?_ | refine gbu rfl rfl rfl rfl rfl ?_ | refine gx rfl rfl (fun _ => ?_) (fun _ => ?_))
   | (refine kC ?_; first | refine gseq ?_ | refine greg ?_ | refine gret ?_ | refine gskip ?_)
   | (refine kN ?_; first | refine gthen ?_)
   | (refine kR ?_; first | refine grs ?_ | refine grc ?_)
   | (refine kR ?_; refine gr rfl (rvT rfl rv0) (_) rfl Ent.nil ?_)
   | (refine kD ?_; first | exact dm_none))
  refine gr rfl (rvT rfl rv0) _ rfl (eb Ent.nil) trivial
instance c_ref02_New {w0 : World} {X : Nat → Prop} {L : List Assn} : Ctr Tryd.prog 87 [] w0 X L True (fun g : Nat => .pointer (some ⟨g, 0, none⟩)) (fun g => boxA g 118 hashC :: L) (fun _ => True) :=
  ctr' (M' := fun g => [boxA g 118 hashC]) (by kernel_rfl) (fun hp w hw => ref02_New w) (by rintro _ g _ ok; exact ⟨g, rfl, rfl, trivial⟩)
/-- byte by byte -/
theorem outW_at : ∀ {s : List UInt32} {i : Nat}, i < 4 * s.length → (outW s)[i]? = some (u8 ((shrW (ixd s ((i : Int) / 4)) (24 - 8 * ((i : Int) % 4)).toNat).toNat : Int))
  | [], i, h => by simp at h
  | x :: r, i, h => by
    have e : outW (x :: r) = highL (x.toNat : Int) 4 ++ outW r := rfl
    rw [e]
    by_cases hi : i < 4
    · have e1 : ixd (x :: r) ((i : Int) / 4) = x := by
        have : ((i : Int) / 4).toNat = 0 := by omega
        simp [ixd, this]
      rw [List.getElem?_append_left (by rw [highL_len]; exact hi), e1]
      simp only [highL, List.getElem?_map, List.getElem?_range hi, Option.map_some, shrW_nat]
      congr 2
      rw [Int.natCast_ediv, show (24 - 8 * ((i : Int) % 4)).toNat = 8 * (4 - 1 - i) by omega, Int.natCast_pow]; rfl
    · have ih := outW_at (s := r) (i := i - 4) (by simp only [List.length_cons] at h; omega)
      have e1 : ixd (x :: r) ((i : Int) / 4) = ixd r (((i - 4 : Nat) : Int) / 4) := by
        have : ((i : Int) / 4).toNat = (((i - 4 : Nat) : Int) / 4).toNat + 1 := by omega
        simp [ixd, this]
      rw [List.getElem?_append_right (by rw [highL_len]; omega), highL_len, ih, e1]
      congr 5; omega
def outG (s : List UInt32) (i : Nat) : List UInt8 := (outW s).take i ++ List.replicate (32 - i) 0
theorem outG_len {s : List UInt32} {i : Nat} (hs : s.length = 8) (hi : i ≤ 32) : (outG s i).length = 32 := by
  have := outW_len s
  simp [outG]; omega
theorem outG_step {s : List UInt32} {i : Nat} (hs : s.length = 8) (hi : i < 32) : (outG s i).set i (u8 ((shrW (ixd s ((i : Int) / 4)) (24 - 8 * ((i : Int) % 4)).toNat).toNat : Int)) = outG s (i + 1) := by
  have hl := outW_len s
  have h1 := outW_at (s := s) (i := i) (by omega)
  have h2 : i < (outW s).length := by omega
  rw [List.getElem?_eq_getElem h2] at h1
  have h3 := Option.some.inj h1
  rw [← h3]
  unfold outG
  rw [List.take_succ_eq_append_getElem h2, List.set_append_right _ _ (by simp; omega)]
  have e : (List.replicate (32 - i) (0 : UInt8)) = 0 :: List.replicate (32 - (i + 1)) 0 := by
    rw [← List.replicate_succ]; congr 1; omega
  rw [e, List.length_take, Nat.min_eq_left (by omega), Nat.sub_self, List.set_cons_zero, List.append_assoc]; rfl
theorem blk_eq (p : List UInt8) (i : Nat) {k : Nat} (h : k = 64) (hi : 64 * i + 64 ≤ p.length) : ((p.drop (64 * i)).take k) = blkW p i := by
  subst h; rw [blkW, padT_eq]; simp; omega
theorem ref02_HSum (h : Nat) (lA : Option Addr) (lc : Nat) (l : List UInt8) (w0 : World) (hh : Pr w0 h hashC) (hl : Slr w0 RB (.slice lA l.length lc) l) (hp : l.length ≤ 140737488351232) :
    Ct Tryd.prog 88 [.pointer (some ⟨h, 0, none⟩), .slice lA l.length lc] w0 no (fun ((e0) : List UInt8) => Ag [.blk 32 (RB.all e0)]) (fun (e0) => []) (fun (e0) => e0 = (shaH l).l) := by
  have hst := St.start w0
  have i_h := Rp.old hh
  have i_l := Rw.old hl
  refine genter _ hst Tryd.func88 rfl rfl rfl rfl ?_
  repeat' (first
   | (refine kO ?_; first | refine gv rfl rfl ?_ | refine gnil ?_ | refine gnilD ?_ | refine gl rfl (lvb rfl rfl) rfl (fun _ => ?_) | refine gl rfl (lvB rfl rfl rfl) rfl (fun _ => ?_) | refine gl rfl (lve rfl rfl) rfl (fun _ => ?_) | refine gl rfl (lvE rfl rfl rfl) rfl (fun _ => ?_) | refine gl rfl (lva rfl rfl rfl rfl rfl) rfl (fun _ => ?_) | refine gl rfl (lvp rfl rfl) rfl (fun _ => ?_) | refine gl rfl (lvP rfl rfl rfl) rfl (fun _ => ?_) | refine gp rfl (by (try simp only [InR]); omega) rfl ?_ | refine gsh rfl (by (try simp only [InR]); omega) rfl ?_ | refine gsv rfl (by (try simp only [InR, InSh]); omega) rfl ?_ | refine gf rfl rfl rfl ?_ | refine gix rfl rfl rfl rfl (by omega) rfl (fun _ => ?_) | refine gixa rfl rfl rfl rfl (by omega) rfl (fun _ => ?_) | refine gc3 rfl rfl rfl rfl rfl rfl (by omega) rfl (fun _ => ?_) | refine gc2 rfl rfl rfl rfl rfl (by omega) rfl (fun _ => ?_) | refine gch rfl rfl rfl rfl (by omega) rfl (fun _ => ?_) | refine gcl rfl rfl rfl rfl (by omega) rfl (fun _ => ?_) | refine gca rfl rfl rfl rfl ?_ | refine gchm rfl rfl rfl rfl rfl (by omega) rfl (fun _ => ?_) | (refine kK ?_; first | refine gcall rfl ?_ rfl (fun _ _ => ?_) (fun _ _ => ?_) | refine gcv rfl rfl ?_ rfl (fun _ _ => ?_) (fun _ _ => ?_) | refine gcc1 rfl rfl ?_ rfl (fun _ _ => ?_) (fun _ _ => ?_)) | refine ga rfl (fun _ => ?_) (fun _ => ?_) | refine gst rfl rfl rfl rfl ?_ ?_ | refine ge rfl rfl rfl rfl ?_ ?_ | refine gea rfl rfl rfl rfl rfl rfl rfl ?_ ?_ | refine gb rfl rfl rfl rfl ?_ | refine gss rfl (by (try simp only [InR, InSh]); omega) rfl ?_ | refine gw rfl rfl ?_)
   | (refine kC ?_; first | refine gseq ?_ | refine greg ?_ | refine gret ?_ | refine gskip ?_ | refine gdraw (id := 6) [0,1,2,3,4,5,6,7,8,9,10,11] (by kernel_rfl) (by kernel_rfl) rfl ?_ | (refine gcond rfl (fun h => ?_) (fun h => ?_) <;> (first | exact h.elim | (exfalso; omega) | exact absurd h (by assumption) | exact absurd (by assumption) h | skip)) | refine gblk ?_ | refine gexit ?_)
   | (refine kN ?_; first | refine gthen ?_ | refine gnblk ?_)
   | (refine kR ?_; first | refine grs ?_ | refine grb ?_ | refine grl ?_ | refine grc ?_)
   | (refine kX ?_; first | refine gxs ?_ | refine gxb ?_ | refine gxn rfl ?_ | refine gxl ?_ | refine gxc ?_)
   | (refine kR ?_; refine gr rfl (rvC rfl (lvb rfl rfl) rv0) (_) rfl Ent.nil ?_)
   | (refine kR ?_; refine gr rfl (rvC rfl (lvB rfl rfl rfl) rv0) (_) rfl Ent.nil ?_)
   | (refine Pre.mk ?_; first | exact True.intro | omega | ((repeat' (first | refine And.intro ?_ ?_ | exact True.intro | assumption | omega)); done) | (simp only [and_true, true_and, or_true, true_or]; first | done | omega))
   | (refine kD ?_; first | exact dm_none | exact dm0 | refine dmOff rfl ?_ | refine dmOn (lvb rfl rfl) ?_ | refine dmOn (lvB rfl rfl rfl) ?_ | refine dmOn (lve rfl rfl) ?_ | refine dmOn (lvE rfl rfl rfl) ?_ | refine dmOn (lva rfl rfl rfl rfl rfl) ?_ | refine dmOn (lvp rfl rfl) ?_ | refine dmOn (lvP rfl rfl rfl) ?_))
  rename_i gO s _ _ g2
  have hpl := padL_64 l
  have hp2 := padL_len l
  have hp3 : padN l.length ≤ 63 := by unfold padN; omega
  refine gloop [0, 4, 5, 6] (fun (i : Nat) K => (7, .int .i64 ((64 * i : Nat) : Int)) :: K) (fun i => [boxA g2 106 [.blk 8 (RW.all (sumW (padL l) i))], rw_ 5 RB s (padL l).length (padL l), boxA gO 25 [.blk 32 (RB.all (List.replicate 32 0))]]) (fun i => 64 * i ≤ (padL l).length) (fun i => (padL l).length - 64 * i) 0 rfl (by repeat (first | exact trivial | refine ⟨rfl, ?_⟩)) (by rw [sumW]; exact (eb (er (eb Ent.nil)))) (by omega) (fun i hi => ?_)
  by_cases hlt : 64 * i < (padL l).length
  · have h64 : 64 * i + 64 ≤ (padL l).length := by clear hp hp2; omega
    have e1 := blk_eq (k := ((((64 * i : Nat) : Int) + 64) - ((64 * i : Nat) : Int)).toNat) (padL l) i (by omega) h64
    have e2 : (((padL l).drop (((64 * i : Nat) : Int)).toNat).take ((((64 * i : Nat) : Int) + 64) - ((64 * i : Nat) : Int)).toNat).length = 64 := by
      simp; omega
    clear hpl
    repeat' (first
     | (refine kO ?_; first | refine gv rfl rfl ?_ | refine gnil ?_ | refine gnilD ?_ | refine gl rfl (lvb rfl rfl) rfl (fun _ => ?_) | refine gl rfl (lvB rfl rfl rfl) rfl (fun _ => ?_) | refine gl rfl (lve rfl rfl) rfl (fun _ => ?_) | refine gl rfl (lvE rfl rfl rfl) rfl (fun _ => ?_) | refine gl rfl (lva rfl rfl rfl rfl rfl) rfl (fun _ => ?_) | refine gl rfl (lvp rfl rfl) rfl (fun _ => ?_) | refine gl rfl (lvP rfl rfl rfl) rfl (fun _ => ?_) | refine gp rfl (by (try simp only [InR]); omega) rfl ?_ | refine gsh rfl (by (try simp only [InR]); omega) rfl ?_ | refine gsv rfl (by (try simp only [InR, InSh]); omega) rfl ?_ | refine gf rfl rfl rfl ?_ | refine gix rfl rfl rfl rfl (by omega) rfl (fun _ => ?_) | refine gixa rfl rfl rfl rfl (by omega) rfl (fun _ => ?_) | refine gc3 rfl rfl rfl rfl rfl rfl (by omega) rfl (fun _ => ?_) | refine gc2 rfl rfl rfl rfl rfl (by omega) rfl (fun _ => ?_) | refine gch rfl rfl rfl rfl (by omega) rfl (fun _ => ?_) | refine gcl rfl rfl rfl rfl (by omega) rfl (fun _ => ?_) | refine gca rfl rfl rfl rfl ?_ | refine gchm rfl rfl rfl rfl rfl (by omega) rfl (fun _ => ?_) | (refine kK ?_; first | refine gcall rfl ?_ rfl (fun _ _ => ?_) (fun _ _ => ?_) | refine gcv rfl rfl ?_ rfl (fun _ _ => ?_) (fun _ _ => ?_) | refine gcc1 rfl rfl ?_ rfl (fun _ _ => ?_) (fun _ _ => ?_)) | refine ga rfl (fun _ => ?_) (fun _ => ?_) | refine gst rfl rfl rfl rfl ?_ ?_ | refine ge rfl rfl rfl rfl ?_ ?_ | refine gea rfl rfl rfl rfl rfl rfl rfl ?_ ?_ | refine gb rfl rfl rfl rfl ?_ | refine gss rfl (by (try simp only [InR, InSh]); omega) rfl ?_ | refine gw rfl rfl ?_)
     | (refine kC ?_; first | refine gseq ?_ | refine greg ?_ | refine gret ?_ | refine gskip ?_ | refine gdraw (id := 6) [0,1,2,3,4,5,6,7,8,9,10,11] (by kernel_rfl) (by kernel_rfl) rfl ?_ | (refine gcond rfl (fun h => ?_) (fun h => ?_) <;> (first | exact h.elim | (exfalso; omega) | exact absurd h (by assumption) | exact absurd (by assumption) h | skip)) | refine gblk ?_ | refine gexit ?_)
     | (refine kN ?_; first | refine gthen ?_ | refine gnblk ?_)
     | (refine kR ?_; first | refine grs ?_ | refine grb ?_ | refine grl ?_ | refine grc ?_)
     | (refine kX ?_; first | refine gxs ?_ | refine gxb ?_ | refine gxn rfl ?_ | refine gxl ?_ | refine gxc ?_)
     | (refine kR ?_; refine gr rfl (rvC rfl (lvb rfl rfl) rv0) (_) rfl Ent.nil ?_)
     | (refine kR ?_; refine gr rfl (rvC rfl (lvB rfl rfl rfl) rv0) (_) rfl Ent.nil ?_)
     | (refine Pre.mk ?_; first | exact True.intro | omega | ((repeat' (first | refine And.intro ?_ ?_ | exact True.intro | assumption | omega)); done) | (simp only [and_true, true_and, or_true, true_or]; first | done | omega))
     | (refine kD ?_; first | exact dm_none | exact dm0 | refine dmOff rfl ?_ | refine dmOn (lvb rfl rfl) ?_ | refine dmOn (lvB rfl rfl rfl) ?_ | refine dmOn (lve rfl rfl) ?_ | refine dmOn (lvE rfl rfl rfl) ?_ | refine dmOn (lva rfl rfl rfl rfl rfl) ?_ | refine dmOn (lvp rfl rfl) ?_ | refine dmOn (lvP rfl rfl rfl) ?_))
    refine gnl (i + 1) ?_ ?_ (by omega) (by omega)
    · rw [show ((64 * (i + 1) : Nat) : Int) = ((64 * i : Nat) : Int) + 64 by omega]; exact (by repeat (first | exact trivial | refine ⟨rfl, ?_⟩))
    · rw [sumW, ← e1, Int.toNat_natCast]
      exact (eb (er (eb Ent.nil)))
  · have hdone : i = (padL l).length / 64 := by omega
    repeat' (first
     | (refine kO ?_; first | refine gv rfl rfl ?_ | refine gnil ?_ | refine gnilD ?_ | refine gl rfl (lvb rfl rfl) rfl (fun _ => ?_) | refine gl rfl (lvB rfl rfl rfl) rfl (fun _ => ?_) | refine gl rfl (lve rfl rfl) rfl (fun _ => ?_) | refine gl rfl (lvE rfl rfl rfl) rfl (fun _ => ?_) | refine gl rfl (lva rfl rfl rfl rfl rfl) rfl (fun _ => ?_) | refine gl rfl (lvp rfl rfl) rfl (fun _ => ?_) | refine gl rfl (lvP rfl rfl rfl) rfl (fun _ => ?_) | refine gp rfl (by (try simp only [InR]); omega) rfl ?_ | refine gsh rfl (by (try simp only [InR]); omega) rfl ?_ | refine gsv rfl (by (try simp only [InR, InSh]); omega) rfl ?_ | refine gf rfl rfl rfl ?_ | refine gix rfl rfl rfl rfl (by omega) rfl (fun _ => ?_) | refine gixa rfl rfl rfl rfl (by omega) rfl (fun _ => ?_) | refine gc3 rfl rfl rfl rfl rfl rfl (by omega) rfl (fun _ => ?_) | refine gc2 rfl rfl rfl rfl rfl (by omega) rfl (fun _ => ?_) | refine gch rfl rfl rfl rfl (by omega) rfl (fun _ => ?_) | refine gcl rfl rfl rfl rfl (by omega) rfl (fun _ => ?_) | refine gca rfl rfl rfl rfl ?_ | refine gchm rfl rfl rfl rfl rfl (by omega) rfl (fun _ => ?_) | (refine kK ?_; first | refine gcall rfl ?_ rfl (fun _ _ => ?_) (fun _ _ => ?_) | refine gcv rfl rfl ?_ rfl (fun _ _ => ?_) (fun _ _ => ?_) | refine gcc1 rfl rfl ?_ rfl (fun _ _ => ?_) (fun _ _ => ?_)) | refine ga rfl (fun _ => ?_) (fun _ => ?_) | refine gst rfl rfl rfl rfl ?_ ?_ | refine ge rfl rfl rfl rfl ?_ ?_ | refine gea rfl rfl rfl rfl rfl rfl rfl ?_ ?_ | refine gb rfl rfl rfl rfl ?_ | refine gss rfl (by (try simp only [InR, InSh]); omega) rfl ?_ | refine gw rfl rfl ?_)
     | (refine kC ?_; first | refine gseq ?_ | refine greg ?_ | refine gret ?_ | refine gskip ?_ | refine gdraw (id := 6) [0,1,2,3,4,5,6,7,8,9,10,11] (by kernel_rfl) (by kernel_rfl) rfl ?_ | (refine gcond rfl (fun h => ?_) (fun h => ?_) <;> (first | exact h.elim | (exfalso; omega) | exact absurd h (by assumption) | exact absurd (by assumption) h | skip)) | refine gblk ?_ | refine gexit ?_)
     | (refine kN ?_; first | refine gthen ?_ | refine gnblk ?_)
     | (refine kR ?_; first | refine grs ?_ | refine grb ?_ | refine grl ?_ | refine grc ?_)
     | (refine kX ?_; first | refine gxs ?_ | refine gxb ?_ | refine gxn rfl ?_ | refine gxl ?_ | refine gxc ?_)
     | (refine kR ?_; refine gr rfl (rvC rfl (lvb rfl rfl) rv0) (_) rfl Ent.nil ?_)
     | (refine kR ?_; refine gr rfl (rvC rfl (lvB rfl rfl rfl) rv0) (_) rfl Ent.nil ?_)
     | (refine Pre.mk ?_; first | exact True.intro | omega | ((repeat' (first | refine And.intro ?_ ?_ | exact True.intro | assumption | omega)); done) | (simp only [and_true, true_and, or_true, true_or]; first | done | omega))
     | (refine kD ?_; first | exact dm_none | exact dm0 | refine dmOff rfl ?_ | refine dmOn (lvb rfl rfl) ?_ | refine dmOn (lvB rfl rfl rfl) ?_ | refine dmOn (lve rfl rfl) ?_ | refine dmOn (lvE rfl rfl rfl) ?_ | refine dmOn (lva rfl rfl rfl rfl rfl) ?_ | refine dmOn (lvp rfl rfl) ?_ | refine dmOn (lvP rfl rfl rfl) ?_))
    rename_i g3
    have hsl := sumW_len (padL l) i
    refine gloop [4, 6, 8] (fun (j : Nat) K => (9, .int .i64 j) :: K) (fun j => [boxA g3 25 [.blk 32 (RB.all (outG (sumW (padL l) i) j))], boxA g2 106 [.blk 8 (RW.all (sumW (padL l) i))], boxA gO 25 [.blk 32 (RB.all (List.replicate 32 0))]]) (fun j => j ≤ 32) (fun j => 32 - j) 0 rfl (by repeat (first | exact trivial | refine ⟨rfl, ?_⟩)) (by rw [show outG (sumW (padL l) i) 0 = List.replicate 32 0 by simp [outG]]; exact (eb (eb (eb Ent.nil)))) (by omega) (fun j hj => ?_)
    have hv : LenIs (outG (sumW (padL l) i) j) 32 := ⟨outG_len hsl hj⟩
    by_cases hlj : j < 32
    · skip
      repeat' (first
       | (refine kO ?_; first | refine gwd rfl rfl rfl ?_ rfl ?_ | refine gwn rfl ?_ rfl ?_ | refine gws rfl rfl ?_ (by omega) rfl ?_ | refine gwr rfl rfl ?_ (by omega) rfl ?_ | refine gwc rfl rfl rfl ?_ rfl ?_ | refine gneg rfl (by (try simp only [InR]); omega) rfl ?_ | refine gindex rfl rfl rfl rfl rfl (by omega) rfl rfl (fun _ => ?_) | refine gcb2 rfl rfl rfl rfl rfl (by omega) rfl (fun _ => ?_) | refine gcb rfl rfl rfl rfl (by omega) rfl (fun _ => ?_) | refine gcopyb rfl rfl rfl rfl rfl rfl (by omega) rfl (fun _ => ?_) (fun _ => ?_) | refine gv rfl rfl ?_ | refine gnil ?_ | refine gnilD ?_ | refine gl rfl (lvb rfl rfl) rfl (fun _ => ?_) | refine gl rfl (lvB rfl rfl rfl) rfl (fun _ => ?_) | refine gl rfl (lve rfl rfl) rfl (fun _ => ?_) | refine gl rfl (lvE rfl rfl rfl) rfl (fun _ => ?_) | refine gl rfl (lva rfl rfl rfl rfl rfl) rfl (fun _ => ?_) | refine gl rfl (lvp rfl rfl) rfl (fun _ => ?_) | refine gl rfl (lvP rfl rfl rfl) rfl (fun _ => ?_) | refine gl rfl (lvn rfl rfl rfl (by omega)) rfl (fun _ => ?_) | refine gl rfl (lvK rfl) rfl (fun _ => ?_) | refine gp rfl (by (try simp only [InR]); omega) rfl ?_ | refine gsh rfl (by (try simp only [InR]); omega) rfl ?_ | refine gsv rfl (by (try simp only [InR, InSh]); omega) rfl ?_ | refine gf rfl rfl rfl ?_ | refine gix rfl rfl rfl rfl (by omega) rfl (fun _ => ?_) | refine gixa rfl rfl rfl rfl (by omega) rfl (fun _ => ?_) | refine gc3 rfl rfl rfl rfl rfl rfl (by omega) rfl (fun _ => ?_) | refine gc2 rfl rfl rfl rfl rfl (by omega) rfl (fun _ => ?_) | refine gch rfl rfl rfl rfl (by omega) rfl (fun _ => ?_) | refine gcl rfl rfl rfl rfl (by omega) rfl (fun _ => ?_) | refine gca rfl rfl rfl rfl ?_ | refine gchm rfl rfl rfl rfl rfl (by omega) rfl (fun _ => ?_) | (refine kK ?_; first | refine gcall rfl ?_ rfl (fun _ _ => ?_) (fun _ _ => ?_) | refine gcv rfl rfl ?_ rfl (fun _ _ => ?_) (fun _ _ => ?_) | refine gcc1 rfl rfl ?_ rfl (fun _ _ => ?_) (fun _ _ => ?_)) | refine ga rfl (fun _ => ?_) (fun _ => ?_) | refine gst rfl rfl rfl rfl ?_ ?_ | refine ge rfl rfl rfl rfl ?_ ?_ | refine gea rfl rfl rfl rfl rfl rfl rfl ?_ ?_ | refine gb rfl rfl rfl rfl ?_ | refine gss rfl (by (try simp only [InR, InSh]); omega) rfl ?_ | refine gw rfl rfl ?_)
       | (refine kC ?_; first | refine gseq ?_ | refine greg ?_ | refine gret ?_ | refine gskip ?_ | refine gdraw (id := 6) [0,1,2,3,4,5,6,7,8,9,10,11] (by kernel_rfl) (by kernel_rfl) rfl ?_ | (refine gcond rfl (fun h => ?_) (fun h => ?_) <;> (first | exact h.elim | (exfalso; omega) | exact absurd h (by assumption) | exact absurd (by assumption) h | skip)) | refine gblk ?_ | refine gexit ?_)
       | (refine kN ?_; first | refine gthen ?_ | refine gnblk ?_)
       | (refine kR ?_; first | refine grs ?_ | refine grb ?_ | refine grl ?_ | refine grc ?_)
       | (refine kX ?_; first | refine gxs ?_ | refine gxb ?_ | refine gxn rfl ?_ | refine gxl ?_ | refine gxc ?_)
       | (refine kR ?_; refine gr rfl (rvC rfl (lvb rfl rfl) rv0) (_) rfl Ent.nil ?_)
       | (refine kR ?_; refine gr rfl (rvC rfl (lvB rfl rfl rfl) rv0) (_) rfl Ent.nil ?_)
       | (refine Pre.mk ?_; first | exact True.intro | omega | ((repeat' (first | refine And.intro ?_ ?_ | exact True.intro | assumption | omega)); done) | (simp only [and_true, true_and, or_true, true_or]; first | done | omega))
       | (refine kD ?_; first | exact dm_none | exact dm0 | refine dmOff rfl ?_ | refine dmOn (lvb rfl rfl) ?_ | refine dmOn (lvB rfl rfl rfl) ?_ | refine dmOn (lve rfl rfl) ?_ | refine dmOn (lvE rfl rfl rfl) ?_ | refine dmOn (lva rfl rfl rfl rfl rfl) ?_ | refine dmOn (lvp rfl rfl) ?_ | refine dmOn (lvP rfl rfl rfl) ?_ | refine dmOn (lvn rfl rfl rfl (by omega)) ?_ | refine dmOn (lvK rfl) ?_))
      refine gnl (j + 1) (by repeat (first | exact trivial | refine ⟨rfl, ?_⟩)) ?_ (by omega) (by omega)
      rw [← outG_step hsl hlj, Int.toNat_natCast]
      exact (eb (eb (eb Ent.nil)))
    · obtain rfl : j = 32 := by omega
      repeat' (first
       | (refine kO ?_; first | refine gv rfl rfl ?_ | refine gnil ?_ | refine gnilD ?_ | refine gl rfl (lvb rfl rfl) rfl (fun _ => ?_) | refine gl rfl (lvB rfl rfl rfl) rfl (fun _ => ?_) | refine gl rfl (lve rfl rfl) rfl (fun _ => ?_) | refine gl rfl (lvE rfl rfl rfl) rfl (fun _ => ?_) | refine gl rfl (lva rfl rfl rfl rfl rfl) rfl (fun _ => ?_) | refine gl rfl (lvp rfl rfl) rfl (fun _ => ?_) | refine gl rfl (lvP rfl rfl rfl) rfl (fun _ => ?_) | refine gp rfl (by (try simp only [InR]); omega) rfl ?_ | refine gsh rfl (by (try simp only [InR]); omega) rfl ?_ | refine gsv rfl (by (try simp only [InR, InSh]); omega) rfl ?_ | refine gf rfl rfl rfl ?_ | refine gix rfl rfl rfl rfl (by omega) rfl (fun _ => ?_) | refine gixa rfl rfl rfl rfl (by omega) rfl (fun _ => ?_) | refine gc3 rfl rfl rfl rfl rfl rfl (by omega) rfl (fun _ => ?_) | refine gc2 rfl rfl rfl rfl rfl (by omega) rfl (fun _ => ?_) | refine gch rfl rfl rfl rfl (by omega) rfl (fun _ => ?_) | refine gcl rfl rfl rfl rfl (by omega) rfl (fun _ => ?_) | refine gca rfl rfl rfl rfl ?_ | refine gchm rfl rfl rfl rfl rfl (by omega) rfl (fun _ => ?_) | (refine kK ?_; first | refine gcall rfl ?_ rfl (fun _ _ => ?_) (fun _ _ => ?_) | refine gcv rfl rfl ?_ rfl (fun _ _ => ?_) (fun _ _ => ?_) | refine gcc1 rfl rfl ?_ rfl (fun _ _ => ?_) (fun _ _ => ?_)) | refine ga rfl (fun _ => ?_) (fun _ => ?_) | refine gst rfl rfl rfl rfl ?_ ?_ | refine ge rfl rfl rfl rfl ?_ ?_ | refine gea rfl rfl rfl rfl rfl rfl rfl ?_ ?_ | refine gb rfl rfl rfl rfl ?_ | refine gss rfl (by (try simp only [InR, InSh]); omega) rfl ?_ | refine gw rfl rfl ?_)
       | (refine kC ?_; first | refine gseq ?_ | refine greg ?_ | refine gret ?_ | refine gskip ?_ | refine gdraw (id := 6) [0,1,2,3,4,5,6,7,8,9,10,11] (by kernel_rfl) (by kernel_rfl) rfl ?_ | (refine gcond rfl (fun h => ?_) (fun h => ?_) <;> (first | exact h.elim | (exfalso; omega) | exact absurd h (by assumption) | exact absurd (by assumption) h | skip)) | refine gblk ?_ | refine gexit ?_)
       | (refine kN ?_; first | refine gthen ?_ | refine gnblk ?_)
       | (refine kR ?_; first | refine grs ?_ | refine grb ?_ | refine grl ?_ | refine grc ?_)
       | (refine kX ?_; first | refine gxs ?_ | refine gxb ?_ | refine gxn rfl ?_ | refine gxl ?_ | refine gxc ?_)
       | (refine kR ?_; refine gr rfl (rvC rfl (lvb rfl rfl) rv0) (_) rfl Ent.nil ?_)
       | (refine kR ?_; refine gr rfl (rvC rfl (lvB rfl rfl rfl) rv0) (_) rfl Ent.nil ?_)
       | (refine Pre.mk ?_; first | exact True.intro | omega | ((repeat' (first | refine And.intro ?_ ?_ | exact True.intro | assumption | omega)); done) | (simp only [and_true, true_and, or_true, true_or]; first | done | omega))
       | (refine kD ?_; first | exact dm_none | exact dm0 | refine dmOff rfl ?_ | refine dmOn (lvb rfl rfl) ?_ | refine dmOn (lvB rfl rfl rfl) ?_ | refine dmOn (lve rfl rfl) ?_ | refine dmOn (lvE rfl rfl rfl) ?_ | refine dmOn (lva rfl rfl rfl rfl rfl) ?_ | refine dmOn (lvp rfl rfl) ?_ | refine dmOn (lvP rfl rfl rfl) ?_))
      show outG (sumW (padL l) i) 32 = shaL l
      have := outW_len (sumW (padL l) i)
      rw [outG, List.take_of_length_le (by omega), List.replicate_zero, List.append_nil, hdone]; rfl
instance c_ref02_HSum {h : Nat} {lA : Option Addr} {lc ln : Nat} {l : List UInt8} {w0 : World} {X : Nat → Prop} {L : List Assn} [hh : Rp w0 X L h hashC] [hl : Rw w0 X L (.slice lA ln lc) RB l] : Ctr Tryd.prog 88 [.pointer (some ⟨h, 0, none⟩), .slice lA ln lc] w0 X L (l.length ≤ 140737488351232) (fun _ : Unit => Ag [.blk 32 (RB.all (shaH l).l)]) (fun _ : Unit => L) (fun _ : Unit => True) :=
  ctr' (M' := (fun _ : Unit => [])) (by kernel_rfl) (fun hp w hw => by have el := hl.len hw; subst el; exact ref02_HSum _ _ _ _ w (hh.get w hw) (hl.get w hw) hp) (by rintro hp e0 rfl ok; exact ⟨(), rfl, rfl, trivial⟩)
theorem ref02_HTwice (h : Nat) (lA : Option Addr) (lc : Nat) (l : List UInt8) (w0 : World) (hh : Pr w0 h hashC) (hl : Slr w0 RB (.slice lA l.length lc) l) (hp : l.length ≤ 140737488351232) :
    Ct Tryd.prog 89 [.pointer (some ⟨h, 0, none⟩), .slice lA l.length lc] w0 no (fun ((e0) : List UInt8) => Ag [.blk 32 (RB.all e0)]) (fun (e0) => []) (fun (e0) => e0 = (sha2 l).l) := by
  have hst := St.start w0
  have i_h := Rp.old hh
  have i_l := Rw.old hl
  refine genter _ hst Tryd.func89 rfl rfl rfl rfl ?_
  have h32 := shaL_len l
  have h33 : (shaH l).l.length ≤ 140737488351232 := by show (shaL l).length ≤ _; omega
  repeat' (first
   | (refine kO ?_; first | refine gv rfl rfl ?_ | refine gnil ?_ | (refine kK ?_; first | refine gcall rfl ?_ rfl (fun _ _ => ?_) (fun _ _ => ?_) | refine gcv rfl rfl ?_ rfl (fun _ _ => ?_) (fun _ _ => ?_) | refine gcc1 rfl rfl ?_ rfl (fun _ _ => ?_) (fun _ _ => ?_)) | refine ga rfl (fun _ => ?_) (fun _ => ?_) | refine gst rfl rfl rfl rfl ?_ ?_ | refine ge rfl rfl rfl rfl ?_ ?_ | refine gea rfl rfl rfl rfl rfl rfl rfl ?_ ?_)
   | (refine kC ?_; first | refine gseq ?_ | refine greg ?_ | refine gret ?_ | refine gskip ?_)
   | (refine kN ?_; first | refine gthen ?_)
   | (refine kR ?_; first | refine grs ?_ | refine grc ?_)
   | (refine kR ?_; refine gr rfl (rvC rfl (lvb rfl rfl) rv0) (_) rfl Ent.nil ?_)
   | (refine kR ?_; refine gr rfl (rvC rfl (lvB rfl rfl rfl) rv0) (_) rfl Ent.nil ?_)
   | (refine Pre.mk ?_; first | exact True.intro | omega | ((repeat' (first | refine And.intro ?_ ?_ | exact True.intro | assumption | omega)); done) | (simp only [and_true, true_and, or_true, true_or]; first | done | omega))
   | (refine kD ?_; first | exact dm_none))
  rfl
instance c_ref02_HTwice {h : Nat} {lA : Option Addr} {lc ln : Nat} {l : List UInt8} {w0 : World} {X : Nat → Prop} {L : List Assn} [hh : Rp w0 X L h hashC] [hl : Rw w0 X L (.slice lA ln lc) RB l] : Ctr Tryd.prog 89 [.pointer (some ⟨h, 0, none⟩), .slice lA ln lc] w0 X L (l.length ≤ 140737488351232) (fun _ : Unit => Ag [.blk 32 (RB.all (sha2 l).l)]) (fun _ : Unit => L) (fun _ : Unit => True) :=
  ctr' (M' := (fun _ : Unit => [])) (by kernel_rfl) (fun hp w hw => by have el := hl.len hw; subst el; exact ref02_HTwice _ _ _ _ w (hh.get w hw) (hl.get w hw) hp) (by rintro hp e0 rfl ok; exact ⟨(), rfl, rfl, trivial⟩)
theorem ref02_Twice (lA : Option Addr) (lc : Nat) (l : List UInt8) (w0 : World) (hl : Slr w0 RB (.slice lA l.length lc) l) (hp : l.length ≤ 140737488351232) :
    Ct Tryd.prog 75 [.slice lA l.length lc] w0 no (fun ((e0) : List UInt8) => Ag [.blk 32 (RB.all e0)]) (fun (e0) => []) (fun (e0) => e0 = (sha2 l).l) := by
  have hst := St.start w0
  have i_l := Rw.old hl
  refine genter _ hst Tryd.func75 rfl rfl rfl rfl ?_
  repeat' (first
   | (refine kO ?_; first | refine gv rfl rfl ?_ | refine gnil ?_ | (refine kK ?_; first | refine gcall rfl ?_ rfl (fun _ _ => ?_) (fun _ _ => ?_) | refine gcv rfl rfl ?_ rfl (fun _ _ => ?_) (fun _ _ => ?_) | refine gcc1 rfl rfl ?_ rfl (fun _ _ => ?_) (fun _ _ => ?_)) | refine ga rfl (fun _ => ?_) (fun _ => ?_) | refine gst rfl rfl rfl rfl ?_ ?_ | refine ge rfl rfl rfl rfl ?_ ?_ | refine gea rfl rfl rfl rfl rfl rfl rfl ?_ ?_)
   | (refine kC ?_; first | refine gseq ?_ | refine greg ?_ | refine gret ?_ | refine gskip ?_)
   | (refine kN ?_; first | refine gthen ?_)
   | (refine kR ?_; first | refine grs ?_ | refine grc ?_)
   | (refine kR ?_; refine gr rfl (rvC rfl (lvb rfl rfl) rv0) (_) rfl Ent.nil ?_)
   | (refine kR ?_; refine gr rfl (rvC rfl (lvB rfl rfl rfl) rv0) (_) rfl Ent.nil ?_)
   | (refine Pre.mk ?_; first | exact True.intro | omega | ((repeat' (first | refine And.intro ?_ ?_ | exact True.intro | assumption | omega)); done) | (simp only [and_true, true_and, or_true, true_or]; first | done | omega))
   | (refine kD ?_; first | exact dm_none))
  rfl
instance c_ref02_Twice {lA : Option Addr} {lc ln : Nat} {l : List UInt8} {w0 : World} {X : Nat → Prop} {L : List Assn} [hl : Rw w0 X L (.slice lA ln lc) RB l] : Ctr Tryd.prog 75 [.slice lA ln lc] w0 X L (l.length ≤ 140737488351232) (fun _ : Unit => Ag [.blk 32 (RB.all (sha2 l).l)]) (fun _ : Unit => L) (fun _ : Unit => True) :=
  ctr' (M' := (fun _ : Unit => [])) (by kernel_rfl) (fun hp w hw => by have el := hl.len hw; subst el; exact ref02_Twice _ _ _ w (hl.get w hw) hp) (by rintro hp e0 rfl ok; exact ⟨(), rfl, rfl, trivial⟩)
end Go.Proofs.YtkjpemkankefnaaDoor
