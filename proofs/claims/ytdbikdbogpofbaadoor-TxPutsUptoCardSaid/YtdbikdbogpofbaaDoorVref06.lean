/-
  moneyerref06: contracts, to the same plain functions as coin's.
-/
import Derived.Test.YtdbikdbogpofbaaDoorVref01
import Derived.Test.YtdbikdbogpofbaaDoorVcoinP
set_option linter.all false
set_option maxRecDepth 100000
set_option maxHeartbeats 4000000
namespace Go.Proofs.YtdbikdbogpofbaaDoor
open Go.RowKit

theorem take_ixd0 {l : List UInt8} {j : Nat} (h : j < l.length) : l.take (j + 1) = l.take j ++ [ixd l j] := by
  have := take_ixd (l := l) (i := 0) (j := j) (by omega) (by omega)
  simpa using this
theorem ref06_low (n : Int) (k : Int) (w0 : World)  (hp : Fit n k) :
    Ct Tryd.prog 81 [.int .u64 n, .int .i64 k] w0 no (fun ((⟨s0, n0, x0⟩) : Br UInt8) => .slice s0.A n0 s0.c) (fun (⟨s0, n0, x0⟩) => [rw_ 5 RB s0 n0 x0]) (fun (⟨s0, n0, x0⟩) => x0 = (putL n k)) := by
  have hst := St.start w0
  refine genter _ hst Tryd.func81 rfl rfl rfl rfl ?_
  have h0 := hp.1
  have h1 : n ≤ 18446744073709551615 := by have := hp.2; omega
  repeat' (first
   | (refine kO ?_; first | refine gv rfl rfl ?_ | refine gnil ?_ | (refine kK ?_; first | refine gcall rfl ?_ rfl (fun _ _ => ?_) (fun _ _ => ?_) | refine gcv rfl rfl ?_ rfl (fun _ _ => ?_) (fun _ _ => ?_)))
   | (refine kC ?_; first | refine gseq ?_ | refine greg ?_ | refine gret ?_ | refine gskip ?_)
   | (refine kN ?_; first | refine gthen ?_)
   | (refine kR ?_; first | refine grs ?_ | refine grc ?_)
   | (refine kR ?_; refine gr rfl (rvT rfl rv0) (⟨_, _, _⟩) rfl (er Ent.nil) ?_)
   | (refine kR ?_; refine gr rfl (rvT rfl rv0) (⟨⟨none, 0⟩, 0, []⟩) rfl (er0 Ent.nil) ?_)
   | (refine Pre.mk ?_; first | exact True.intro | omega | ((repeat' (first | refine And.intro ?_ ?_ | assumption | omega)); done))
   | (refine kD ?_; first | exact dm_none))
  all_goals rfl
instance c_ref06_low {n : Int} {k : Int} {w0 : World} {X : Nat → Prop} {L : List Assn}  : Ctr Tryd.prog 81 [.int .u64 n, .int .i64 k] w0 X L (Fit n k) (fun s0 : Sv => .slice s0.A (putL n k).length s0.c) (fun s0 : Sv => rw_ 5 RB s0 (putL n k).length (putL n k) :: L) (fun s0 : Sv => ((putL n k).length : Int) = k) :=
  ctr' (M' := (fun s0 : Sv => [rw_ 5 RB s0 (putL n k).length (putL n k)])) (by kernel_rfl) (fun hp w hw => by exact ref06_low _ _ w hp) (by rintro hp ⟨s0, n0, x0⟩ rfl ok; cases ok.row; exact ⟨s0, rfl, rfl, putL_len hp⟩)
theorem ref06_PutPoint (tx : List UInt8) [htx : LenIs tx 32] (n : Int) (ht : Int) (w0 : World)  (hp : 0 ≤ n ∧ n ≤ 65535 ∧ 0 ≤ ht ∧ ht ≤ 4294967295) :
    Ct Tryd.prog 69 [Ag [.blk 32 (RB.all tx), .one (.int .u16 n), .one (.int .u32 ht)]] w0 no (fun ((⟨s0, n0, x0⟩) : Br UInt8) => .slice s0.A n0 s0.c) (fun (⟨s0, n0, x0⟩) => [rw_ 5 RB s0 n0 x0]) (fun (⟨s0, n0, x0⟩) => x0 = (pointB tx n ht)) := by
  have hst := St.start w0
  refine genter _ hst Tryd.func69 rfl rfl rfl rfl ?_
  have h32 := htx.h
  repeat' (first
   | (refine kO ?_; first | refine gv rfl rfl ?_ | refine gnil ?_ | refine gnilD ?_ | refine gl rfl (lvb rfl rfl) rfl (fun _ => ?_) | refine gl rfl (lvB rfl rfl rfl) rfl (fun _ => ?_) | refine gl rfl (lve rfl rfl) rfl (fun _ => ?_) | refine gl rfl (lvE rfl rfl rfl) rfl (fun _ => ?_) | refine gl rfl (lva rfl rfl rfl rfl rfl) rfl (fun _ => ?_) | refine gp rfl (by (try simp only [InR]); omega) rfl ?_ | refine gf rfl rfl rfl ?_ | refine gix rfl rfl rfl rfl (by omega) rfl (fun _ => ?_) | refine gixa rfl rfl rfl rfl (by omega) rfl (fun _ => ?_) | (refine kK ?_; first | refine gcall rfl ?_ rfl (fun _ _ => ?_) (fun _ _ => ?_) | refine gcv rfl rfl ?_ rfl (fun _ _ => ?_) (fun _ _ => ?_)) | refine gx rfl rfl (fun _ => ?_) (fun _ => ?_) | refine gap rfl rfl rfl (by omega) rfl (fun _ => ?_) (fun _ => ?_) | refine gan rfl rfl rfl (by omega) rfl (fun _ => ?_) (fun _ => ?_) | refine gapz rfl rfl rfl rfl (by omega) rfl (fun _ => ?_) (fun _ => ?_) | refine gbs RB rfl rfl rfl rfl rfl rfl (fun _ => ?_) (fun _ => ?_) | refine gbb rfl rfl rfl (by first | (simp; done) | (simp only [and_true]; omega)) rfl rfl rfl rfl (fun _ => ?_) (fun _ => ?_) | refine gb rfl rfl rfl rfl ?_ | refine gw rfl rfl ?_)
   | (refine kC ?_; first | refine gseq ?_ | refine greg ?_ | refine gret ?_ | refine gskip ?_ | refine gdraw (id := 6) [0,1,2,3,6,7,8,4,5,9,10,11] (by kernel_rfl) (by kernel_rfl) rfl ?_ | (refine gcond rfl (fun h => ?_) (fun h => ?_) <;> (first | exact h.elim | (exfalso; omega) | skip)) | refine gblk ?_ | refine gexit ?_)
   | (refine kN ?_; first | refine gthen ?_ | refine gnblk ?_)
   | (refine kR ?_; first | refine grs ?_ | refine grb ?_ | refine grl ?_ | refine grc ?_)
   | (refine kX ?_; first | refine gxs ?_ | refine gxb ?_ | refine gxn rfl ?_ | refine gxl ?_ | refine gxc ?_)
   | (refine kR ?_; refine gr rfl (rvT rfl rv0) (⟨_, _, _⟩) rfl (er Ent.nil) ?_)
   | (refine kR ?_; refine gr rfl (rvT rfl rv0) (⟨⟨none, 0⟩, 0, []⟩) rfl (er0 Ent.nil) ?_)
   | (refine Pre.mk ?_; first | exact True.intro | omega | ((repeat' (first | refine And.intro ?_ ?_ | assumption | omega)); done))
   | (refine kD ?_; first | exact dm_none | exact dm0 | refine dmOff rfl ?_ | refine dmOn (lvb rfl rfl) ?_ | refine dmOn (lvB rfl rfl rfl) ?_ | refine dmOn (lve rfl rfl) ?_ | refine dmOn (lvE rfl rfl rfl) ?_ | refine dmOn (lva rfl rfl rfl rfl rfl) ?_))
  rename_i g
  refine gloop2 [1] (fun (i : Nat) (s : Sv) K => (4, .int .i64 i) :: (3, .slice s.A i s.c) :: K) (fun i s => [rw_ 5 RB s i (tx.take i), boxA g 44 [.blk 32 (RB.all tx), .one (.int .u16 n), .one (.int .u32 ht)]]) (fun i s => i ≤ 32) (fun i s => 32 - i) 0 ⟨none, 0⟩ rfl (by repeat (first | exact trivial | refine ⟨rfl, ?_⟩)) (er0 (eb Ent.nil)) (by omega) (fun i s hi => ?_)
  repeat' (first
   | (refine kO ?_; first | refine gv rfl rfl ?_ | refine gnil ?_ | refine gnilD ?_ | refine gl rfl (lvb rfl rfl) rfl (fun _ => ?_) | refine gl rfl (lvB rfl rfl rfl) rfl (fun _ => ?_) | refine gl rfl (lve rfl rfl) rfl (fun _ => ?_) | refine gl rfl (lvE rfl rfl rfl) rfl (fun _ => ?_) | refine gl rfl (lva rfl rfl rfl rfl rfl) rfl (fun _ => ?_) | refine gp rfl (by (try simp only [InR]); omega) rfl ?_ | refine gf rfl rfl rfl ?_ | refine gix rfl rfl rfl rfl (by omega) rfl (fun _ => ?_) | refine gixa rfl rfl rfl rfl (by omega) rfl (fun _ => ?_) | (refine kK ?_; first | refine gcall rfl ?_ rfl (fun _ _ => ?_) (fun _ _ => ?_) | refine gcv rfl rfl ?_ rfl (fun _ _ => ?_) (fun _ _ => ?_)) | refine gx rfl rfl (fun _ => ?_) (fun _ => ?_) | refine gap rfl rfl rfl (by omega) rfl (fun _ => ?_) (fun _ => ?_) | refine gan rfl rfl rfl (by omega) rfl (fun _ => ?_) (fun _ => ?_) | refine gapz rfl rfl rfl rfl (by omega) rfl (fun _ => ?_) (fun _ => ?_) | refine gbs RB rfl rfl rfl rfl rfl rfl (fun _ => ?_) (fun _ => ?_) | refine gbb rfl rfl rfl (by first | (simp; done) | (simp only [and_true]; omega)) rfl rfl rfl rfl (fun _ => ?_) (fun _ => ?_) | refine gb rfl rfl rfl rfl ?_ | refine gw rfl rfl ?_)
   | (refine kC ?_; first | refine gseq ?_ | refine greg ?_ | refine gret ?_ | refine gskip ?_ | refine gdraw (id := 6) [0,1,2,3,6,7,8,4,5,9,10,11] (by kernel_rfl) (by kernel_rfl) rfl ?_ | (refine gcond rfl (fun h => ?_) (fun h => ?_) <;> (first | exact h.elim | (exfalso; omega) | skip)) | refine gblk ?_ | refine gexit ?_)
   | (refine kN ?_; first | refine gthen ?_ | refine gnblk ?_)
   | (refine kR ?_; first | refine grs ?_ | refine grb ?_ | refine grl ?_ | refine grc ?_)
   | (refine kX ?_; first | refine gxs ?_ | refine gxb ?_ | refine gxn rfl ?_ | refine gxl ?_ | refine gxc ?_)
   | (refine kR ?_; refine gr rfl (rvT rfl rv0) (⟨_, _, _⟩) rfl (er Ent.nil) ?_)
   | (refine kR ?_; refine gr rfl (rvT rfl rv0) (⟨⟨none, 0⟩, 0, []⟩) rfl (er0 Ent.nil) ?_)
   | (refine Pre.mk ?_; first | exact True.intro | omega | ((repeat' (first | refine And.intro ?_ ?_ | assumption | omega)); done))
   | (refine kD ?_; first | exact dm_none | exact dm0 | refine dmOff rfl ?_ | refine dmOn (lvb rfl rfl) ?_ | refine dmOn (lvB rfl rfl rfl) ?_ | refine dmOn (lve rfl rfl) ?_ | refine dmOn (lvE rfl rfl rfl) ?_ | refine dmOn (lva rfl rfl rfl rfl rfl) ?_))
  · rename_i s'
    refine gnl2 (i + 1) s' (by repeat (first | exact trivial | refine ⟨rfl, ?_⟩)) ?_ (by omega) (by omega)
    rw [take_ixd0 (by omega)]; exact er (eb Ent.nil)
  · obtain rfl : i = 32 := by omega
    rw [← h32, List.take_length]; simp [pointB]
instance c_ref06_PutPoint {tx : List UInt8} {n : Int} {ht : Int} {w0 : World} {X : Nat → Prop} {L : List Assn} [htx : LenIs tx 32] : Ctr Tryd.prog 69 [Ag [.blk 32 (RB.all tx), .one (.int .u16 n), .one (.int .u32 ht)]] w0 X L (0 ≤ n ∧ n ≤ 65535 ∧ 0 ≤ ht ∧ ht ≤ 4294967295) (fun s0 : Sv => .slice s0.A (pointB tx n ht).length s0.c) (fun s0 : Sv => rw_ 5 RB s0 (pointB tx n ht).length (pointB tx n ht) :: L) (fun s0 : Sv => (pointB tx n ht).length = 38) :=
  ctr' (M' := (fun s0 : Sv => [rw_ 5 RB s0 (pointB tx n ht).length (pointB tx n ht)])) (by kernel_rfl) (fun hp w hw => by exact ref06_PutPoint _ _ _ w hp) (by rintro hp ⟨s0, n0, x0⟩ rfl ok; cases ok.row; exact ⟨s0, rfl, rfl, pointB_len htx.h hp⟩)
theorem mix_step {a : List UInt8} {m i : Nat} (h : i < m) (hm : m ≤ a.length) : (a.take i ++ List.replicate (m - i) 0).set i (ixd a i) = a.take (i + 1) ++ List.replicate (m - (i + 1)) 0 := by
  rw [take_ixd0 (by omega), List.set_append, List.length_take, if_neg (by omega)]
  have e : m - i = (m - (i + 1)) + 1 := by omega
  rw [e, List.replicate_succ, show i - min i a.length = 0 by omega]; simp
theorem ref06_GetPoint (lA : Option Addr) (lc : Nat) (l : List UInt8) (i : Int) (w0 : World) (hl : Slr w0 RB (.slice lA l.length lc) l) (hp : l.length ≤ 140737488351232) :
    Ct Tryd.prog 33 [.slice lA l.length lc, .int .i64 i] w0 no (fun ((e0, e1, e2, e3, e4) : List UInt8 × Int × Int × Int × Int) => .tuple #[Ag [.blk 32 (RB.all e0), .one (.int .u16 e1), .one (.int .u32 e2)], .int .i64 e3, .int .i64 e4]) (fun (e0, e1, e2, e3, e4) => []) (fun (e0, e1, e2, e3, e4) => e0 = (ptH l i).l ∧ e1 = ptN l i ∧ e2 = ptT l i ∧ e3 = ptX l i ∧ e4 = ptE l i) := by
  have hst := St.start w0
  have i_l := Rw.old hl
  refine genter _ hst Tryd.func33 rfl rfl rfl rfl ?_
  have h2 := getN_2 (partL l i 38) 32
  have h4 := getN_4 (partL l i 38) 34
  by_cases hh : partE l i 38 = 0
  · have h5 := partL_len hh
    have h6 := partE_ok hh
    repeat' (first
     | (refine kO ?_; first | refine gv rfl rfl ?_ | refine gnil ?_ | refine gl rfl (lvb rfl rfl) rfl (fun _ => ?_) | refine gl rfl (lvB rfl rfl rfl) rfl (fun _ => ?_) | refine gl rfl (lve rfl rfl) rfl (fun _ => ?_) | refine gl rfl (lvE rfl rfl rfl) rfl (fun _ => ?_) | refine gl rfl (lva rfl rfl rfl rfl rfl) rfl (fun _ => ?_) | refine gp rfl (by (try simp only [InR]); omega) rfl ?_ | refine gf rfl rfl rfl ?_ | refine gix rfl rfl rfl rfl (by omega) rfl (fun _ => ?_) | refine gixa rfl rfl rfl rfl (by omega) rfl (fun _ => ?_) | (refine kK ?_; first | refine gcall rfl ?_ rfl (fun _ _ => ?_) (fun _ _ => ?_) | refine gcv rfl rfl ?_ rfl (fun _ _ => ?_) (fun _ _ => ?_)) | refine gneq rfl rfl (by kernel_rfl) ?_ rfl ?_ | refine gbu rfl rfl rfl rfl rfl ?_ | refine ga rfl (fun _ => ?_) (fun _ => ?_) | refine gst rfl rfl rfl rfl ?_ ?_ | refine ge rfl rfl rfl rfl ?_ ?_ | refine gea rfl rfl rfl rfl rfl rfl rfl ?_ ?_ | refine gb rfl rfl rfl rfl ?_ | refine gw rfl rfl ?_)
     | (refine kC ?_; first | refine gseq ?_ | refine greg ?_ | refine gret ?_ | refine gskip ?_ | (refine gcond rfl (fun h => ?_) (fun h => ?_) <;> (first | exact h.elim | (exfalso; omega) | skip)) | refine gblk ?_ | refine gexit ?_)
     | (refine kN ?_; first | refine gthen ?_ | refine gnblk ?_)
     | (refine kR ?_; first | refine grs ?_ | refine grb ?_ | refine grl ?_ | refine grc ?_)
     | (refine kX ?_; first | refine gxs ?_ | refine gxb ?_ | refine gxn rfl ?_ | refine gxl ?_ | refine gxc ?_)
     | (refine kR ?_; refine gr rfl (rvC rfl (lvb rfl rfl) (rvT rfl (rvT rfl rv0))) (_, _, _, _, _) rfl Ent.nil ?_)
     | (refine kR ?_; refine gr rfl (rvC rfl (lvB rfl rfl rfl) (rvT rfl (rvT rfl rv0))) (_, _, _, _, _) rfl Ent.nil ?_)
     | (refine Pre.mk ?_; first | exact True.intro | omega | ((repeat' (first | refine And.intro ?_ ?_ | assumption | omega)); done))
     | (refine kD ?_; first | exact dm_none))
    rename_i g0 s _ g
    refine gloop [1, 4, 7, 9] (fun (j : Nat) K => (10, .int .i64 j) :: K) (fun j => [rw_ 5 RB s (partL l i 38).length (partL l i 38), boxA g 44 [.blk 32 (RB.all ((partL l i 38).take j ++ List.replicate (32 - j) 0)), .one (.int .u16 0), .one (.int .u32 0)], boxA g0 44 [.blk 32 (RB.all (List.replicate 32 0)), .one (.int .u16 0), .one (.int .u32 0)]]) (fun j => j ≤ 32) (fun j => 32 - j) 0 rfl (by repeat (first | exact trivial | refine ⟨rfl, ?_⟩)) (by simp only [List.take_zero, List.nil_append, Nat.sub_zero]; exact er (eb (eb Ent.nil))) (by omega) (fun j hj => ?_)
    have i32 : LenIs ((partL l i 38).take j ++ List.replicate (32 - j) 0) 32 := ⟨by simp; omega⟩
    repeat' (first
     | (refine kO ?_; first | refine gv rfl rfl ?_ | refine gnil ?_ | refine gl rfl (lvb rfl rfl) rfl (fun _ => ?_) | refine gl rfl (lvB rfl rfl rfl) rfl (fun _ => ?_) | refine gl rfl (lve rfl rfl) rfl (fun _ => ?_) | refine gl rfl (lvE rfl rfl rfl) rfl (fun _ => ?_) | refine gl rfl (lva rfl rfl rfl rfl rfl) rfl (fun _ => ?_) | refine gp rfl (by (try simp only [InR]); omega) rfl ?_ | refine gf rfl rfl rfl ?_ | refine gix rfl rfl rfl rfl (by omega) rfl (fun _ => ?_) | refine gixa rfl rfl rfl rfl (by omega) rfl (fun _ => ?_) | (refine kK ?_; first | refine gcall rfl ?_ rfl (fun _ _ => ?_) (fun _ _ => ?_) | refine gcv rfl rfl ?_ rfl (fun _ _ => ?_) (fun _ _ => ?_)) | refine gneq rfl rfl (by kernel_rfl) ?_ rfl ?_ | refine gbu rfl rfl rfl rfl rfl ?_ | refine ga rfl (fun _ => ?_) (fun _ => ?_) | refine gst rfl rfl rfl rfl ?_ ?_ | refine ge rfl rfl rfl rfl ?_ ?_ | refine gea rfl rfl rfl rfl rfl rfl rfl ?_ ?_ | refine gb rfl rfl rfl rfl ?_ | refine gw rfl rfl ?_)
     | (refine kC ?_; first | refine gseq ?_ | refine greg ?_ | refine gret ?_ | refine gskip ?_ | (refine gcond rfl (fun h => ?_) (fun h => ?_) <;> (first | exact h.elim | (exfalso; omega) | skip)) | refine gblk ?_ | refine gexit ?_)
     | (refine kN ?_; first | refine gthen ?_ | refine gnblk ?_)
     | (refine kR ?_; first | refine grs ?_ | refine grb ?_ | refine grl ?_ | refine grc ?_)
     | (refine kX ?_; first | refine gxs ?_ | refine gxb ?_ | refine gxn rfl ?_ | refine gxl ?_ | refine gxc ?_)
     | (refine kR ?_; refine gr rfl (rvC rfl (lvb rfl rfl) (rvT rfl (rvT rfl rv0))) (_, _, _, _, _) rfl Ent.nil ?_)
     | (refine kR ?_; refine gr rfl (rvC rfl (lvB rfl rfl rfl) (rvT rfl (rvT rfl rv0))) (_, _, _, _, _) rfl Ent.nil ?_)
     | (refine Pre.mk ?_; first | exact True.intro | omega | ((repeat' (first | refine And.intro ?_ ?_ | assumption | omega)); done))
     | (refine kD ?_; first | exact dm_none))
    · refine gnl (j + 1) (by repeat (first | exact trivial | refine ⟨rfl, ?_⟩)) ?_ (by omega) (by omega)
      rw [← mix_step (by omega) (by omega)]; simp only [Int.toNat_natCast]; exact er (eb (eb Ent.nil))
    · obtain rfl : j = 32 := by omega
      have h7 : ((partL l i 38).take 32).length = 32 := by simp; omega
      simp [ptH, ptN, ptT, ptX, ptE, hh, toH_l h7]
  · skip
    repeat' (first
     | (refine kO ?_; first | refine gv rfl rfl ?_ | refine gnil ?_ | refine gl rfl (lvb rfl rfl) rfl (fun _ => ?_) | refine gl rfl (lvB rfl rfl rfl) rfl (fun _ => ?_) | refine gl rfl (lve rfl rfl) rfl (fun _ => ?_) | refine gl rfl (lvE rfl rfl rfl) rfl (fun _ => ?_) | refine gl rfl (lva rfl rfl rfl rfl rfl) rfl (fun _ => ?_) | refine gp rfl (by (try simp only [InR]); omega) rfl ?_ | refine gf rfl rfl rfl ?_ | refine gix rfl rfl rfl rfl (by omega) rfl (fun _ => ?_) | refine gixa rfl rfl rfl rfl (by omega) rfl (fun _ => ?_) | (refine kK ?_; first | refine gcall rfl ?_ rfl (fun _ _ => ?_) (fun _ _ => ?_) | refine gcv rfl rfl ?_ rfl (fun _ _ => ?_) (fun _ _ => ?_)) | refine gneq rfl rfl (by kernel_rfl) ?_ rfl ?_ | refine gbu rfl rfl rfl rfl rfl ?_ | refine ga rfl (fun _ => ?_) (fun _ => ?_) | refine gst rfl rfl rfl rfl ?_ ?_ | refine ge rfl rfl rfl rfl ?_ ?_ | refine gea rfl rfl rfl rfl rfl rfl rfl ?_ ?_ | refine gb rfl rfl rfl rfl ?_ | refine gw rfl rfl ?_)
     | (refine kC ?_; first | refine gseq ?_ | refine greg ?_ | refine gret ?_ | refine gskip ?_ | (refine gcond rfl (fun h => ?_) (fun h => ?_) <;> (first | exact h.elim | (exfalso; omega) | skip)) | refine gblk ?_ | refine gexit ?_)
     | (refine kN ?_; first | refine gthen ?_ | refine gnblk ?_)
     | (refine kR ?_; first | refine grs ?_ | refine grb ?_ | refine grl ?_ | refine grc ?_)
     | (refine kX ?_; first | refine gxs ?_ | refine gxb ?_ | refine gxn rfl ?_ | refine gxl ?_ | refine gxc ?_)
     | (refine kR ?_; refine gr rfl (rvC rfl (lvb rfl rfl) (rvT rfl (rvT rfl rv0))) (_, _, _, _, _) rfl Ent.nil ?_)
     | (refine kR ?_; refine gr rfl (rvC rfl (lvB rfl rfl rfl) (rvT rfl (rvT rfl rv0))) (_, _, _, _, _) rfl Ent.nil ?_)
     | (refine Pre.mk ?_; first | exact True.intro | omega | ((repeat' (first | refine And.intro ?_ ?_ | assumption | omega)); done))
     | (refine kD ?_; first | exact dm_none))
    all_goals (unfold ptH ptN ptT ptX ptE; grind [zH])
instance c_ref06_GetPoint {lA : Option Addr} {lc ln : Nat} {l : List UInt8} {i : Int} {w0 : World} {X : Nat → Prop} {L : List Assn} [hl : Rw w0 X L (.slice lA ln lc) RB l] : Ctr Tryd.prog 33 [.slice lA ln lc, .int .i64 i] w0 X L (l.length ≤ 140737488351232) (fun _ : Unit => .tuple #[Ag [.blk 32 (RB.all (ptH l i).l), .one (.int .u16 (ptN l i)), .one (.int .u32 (ptT l i))], .int .i64 (ptX l i), .int .i64 (ptE l i)]) (fun _ : Unit => L) (fun _ : Unit => (0 ≤ ptN l i ∧ ptN l i ≤ 65535 ∧ 0 ≤ ptT l i ∧ ptT l i ≤ 4294967295) ∧ (ptE l i = 0 → ptX l i = i + 38 ∧ 0 ≤ i ∧ i + 38 ≤ l.length)) :=
  ctr' (M' := (fun _ : Unit => [])) (by kernel_rfl) (fun hp w hw => by have el := hl.len hw; subst el; exact ref06_GetPoint _ _ _ _ w (hl.get w hw) hp) (by rintro hp ⟨e0, e1, e2, e3, e4⟩ ⟨rfl, rfl, rfl, rfl, rfl⟩ ok; exact ⟨(), rfl, rfl, ⟨pt_b l i, pt_ok⟩⟩)
theorem ref06_MayOut (v : Int) (lockA : Option Addr) (lockc : Nat) (lock : List UInt8) (w0 : World) (hlock : Slr w0 RB (.slice lockA lock.length lockc) lock)  :
    Ct Tryd.prog 50 [Ag [.one (.int .u64 v), .one (.slice lockA lock.length lockc)]] w0 no (fun ((e0) : Bool) => .bool e0) (fun (e0) => []) (fun (e0) => e0 = decide (mayO v lock)) := by
  have hst := St.start w0
  have i_lock := Rw.old hlock
  refine genter _ hst Tryd.func50 rfl rfl rfl rfl ?_
  repeat' (first
   | (refine kO ?_; first | refine gv rfl rfl ?_ | refine gnil ?_ | refine gl rfl (lvb rfl rfl) rfl (fun _ => ?_) | refine gl rfl (lvB rfl rfl rfl) rfl (fun _ => ?_) | refine gl rfl (lve rfl rfl) rfl (fun _ => ?_) | refine gl rfl (lvE rfl rfl rfl) rfl (fun _ => ?_) | refine gl rfl (lva rfl rfl rfl rfl rfl) rfl (fun _ => ?_) | refine gp rfl (by (try simp only [InR]); omega) rfl ?_ | refine gf rfl rfl rfl ?_ | (refine kK ?_; first | refine gcall rfl ?_ rfl (fun _ _ => ?_) (fun _ _ => ?_) | refine gcv rfl rfl ?_ rfl (fun _ _ => ?_) (fun _ _ => ?_)) | refine gx rfl rfl (fun _ => ?_) (fun _ => ?_) | (refine kg ?_; (first | refine guardT rfl rfl rfl rfl (fun h => ?_) (fun h => ?_) | refine guardF rfl rfl rfl rfl (fun h => ?_) (fun h => ?_) | refine guardU rfl rfl rfl rfl ?_ | refine guardTH rfl rfl rfl rfl ?_ (fun h => ?_) (fun h => ?_) | refine guardFH rfl rfl rfl rfl ?_ (fun h => ?_) (fun h => ?_) | refine guardUH rfl rfl rfl rfl ?_ ?_) <;> (first | exact h.elim | (exfalso; omega) | skip)))
   | (refine kC ?_; first | refine gseq ?_ | refine greg ?_ | refine gret ?_ | refine gskip ?_)
   | (refine kN ?_; first | refine gthen ?_)
   | (refine kR ?_; first | refine grs ?_ | refine grc ?_)
   | (refine kR ?_; refine gr rfl (rvT rfl rv0) (_) rfl Ent.nil ?_)
   | (refine Pre.mk ?_; first | exact True.intro | omega | ((repeat' (first | refine And.intro ?_ ?_ | assumption | omega)); done))
   | (refine kD ?_; first | exact dm_none))
  all_goals grind
instance c_ref06_MayOut {v : Int} {lockA : Option Addr} {lockc lockn : Nat} {lock : List UInt8} {w0 : World} {X : Nat → Prop} {L : List Assn} [hlock : Rw w0 X L (.slice lockA lockn lockc) RB lock] : Ctr Tryd.prog 50 [Ag [.one (.int .u64 v), .one (.slice lockA lockn lockc)]] w0 X L (True) (fun _ : Unit => .bool (decide (mayO v lock))) (fun _ : Unit => L) (fun _ : Unit => True) :=
  ctr' (M' := (fun _ : Unit => [])) (by kernel_rfl) (fun hp w hw => by have elock := hlock.len hw; subst elock; exact ref06_MayOut _ _ _ _ w (hlock.get w hw)) (by rintro hp e0 rfl ok; exact ⟨(), rfl, rfl, trivial⟩)
theorem ref06_PutOut (v : Int) (lockA : Option Addr) (lockc : Nat) (lock : List UInt8) (w0 : World) (hlock : Slr w0 RB (.slice lockA lock.length lockc) lock) (hp : 0 ≤ v ∧ v ≤ 18446744073709551615) :
    Ct Tryd.prog 71 [Ag [.one (.int .u64 v), .one (.slice lockA lock.length lockc)]] w0 no (fun ((⟨s0, n0, x0⟩, e1) : Br UInt8 × Int) => .tuple #[.slice s0.A n0 s0.c, .int .i64 e1]) (fun (⟨s0, n0, x0⟩, e1) => [rw_ 5 RB s0 n0 x0]) (fun (⟨s0, n0, x0⟩, e1) => x0 = (outL v lock) ∧ e1 = outE v lock) := by
  have hst := St.start w0
  have i_lock := Rw.old hlock
  refine genter _ hst Tryd.func71 rfl rfl rfl rfl ?_
  repeat' (first
   | (refine kO ?_; first | refine gv rfl rfl ?_ | refine gnil ?_ | refine gnilD ?_ | refine gl rfl (lvb rfl rfl) rfl (fun _ => ?_) | refine gl rfl (lvB rfl rfl rfl) rfl (fun _ => ?_) | refine gl rfl (lve rfl rfl) rfl (fun _ => ?_) | refine gl rfl (lvE rfl rfl rfl) rfl (fun _ => ?_) | refine gl rfl (lva rfl rfl rfl rfl rfl) rfl (fun _ => ?_) | refine gf rfl rfl rfl ?_ | (refine kK ?_; first | refine gcall rfl ?_ rfl (fun _ _ => ?_) (fun _ _ => ?_) | refine gcv rfl rfl ?_ rfl (fun _ _ => ?_) (fun _ _ => ?_)) | refine gx rfl rfl (fun _ => ?_) (fun _ => ?_) | refine gap rfl rfl rfl (by omega) rfl (fun _ => ?_) (fun _ => ?_) | refine gan rfl rfl rfl (by omega) rfl (fun _ => ?_) (fun _ => ?_) | refine gapz rfl rfl rfl rfl (by omega) rfl (fun _ => ?_) (fun _ => ?_))
   | (refine kC ?_; first | refine gseq ?_ | refine greg ?_ | refine gret ?_ | refine gskip ?_ | refine gdraw (id := 3) [0,1,3,4,2,5,6,7,8] (by kernel_rfl) (by kernel_rfl) rfl ?_ | (refine gcond rfl (fun h => ?_) (fun h => ?_) <;> (first | exact h.elim | (exfalso; omega) | skip)))
   | (refine kN ?_; first | refine gthen ?_)
   | (refine kR ?_; first | refine grs ?_ | refine grc ?_)
   | (refine kR ?_; refine gr rfl (rvT rfl (rvT rfl rv0)) (⟨_, _, _⟩, _) rfl (er Ent.nil) ?_)
   | (refine kR ?_; refine gr rfl (rvT rfl (rvT rfl rv0)) (⟨⟨none, 0⟩, 0, []⟩, _) rfl (er0 Ent.nil) ?_)
   | (refine Pre.mk ?_; first | exact True.intro | omega | ((repeat' (first | refine And.intro ?_ ?_ | assumption | omega)); done))
   | (refine kD ?_; first | exact dm_none | exact dm0 | refine dmOff rfl ?_ | refine dmOn (lvb rfl rfl) ?_ | refine dmOn (lvB rfl rfl rfl) ?_ | refine dmOn (lve rfl rfl) ?_ | refine dmOn (lvE rfl rfl rfl) ?_ | refine dmOn (lva rfl rfl rfl rfl rfl) ?_))
  all_goals grind [outL, outE]
instance c_ref06_PutOut {v : Int} {lockA : Option Addr} {lockc lockn : Nat} {lock : List UInt8} {w0 : World} {X : Nat → Prop} {L : List Assn} [hlock : Rw w0 X L (.slice lockA lockn lockc) RB lock] : Ctr Tryd.prog 71 [Ag [.one (.int .u64 v), .one (.slice lockA lockn lockc)]] w0 X L (0 ≤ v ∧ v ≤ 18446744073709551615) (fun s0 : Sv => .tuple #[.slice s0.A (outL v lock).length s0.c, .int .i64 (outE v lock)]) (fun s0 : Sv => rw_ 5 RB s0 (outL v lock).length (outL v lock) :: L) (fun s0 : Sv => (outL v lock).length ≤ 117) :=
  ctr' (M' := (fun s0 : Sv => [rw_ 5 RB s0 (outL v lock).length (outL v lock)])) (by kernel_rfl) (fun hp w hw => by have elock := hlock.len hw; subst elock; exact ref06_PutOut _ _ _ _ w (hlock.get w hw) hp) (by rintro hp ⟨⟨s0, n0, x0⟩, e1⟩ ⟨rfl, rfl⟩ ok; cases ok.row; exact ⟨s0, rfl, rfl, outL_len _ _ hp⟩)
theorem ref06_GetOut (lA : Option Addr) (lc : Nat) (l : List UInt8) (i : Int) (w0 : World) (hl : Slr w0 RB (.slice lA l.length lc) l) (hp : l.length ≤ 140737488351232) :
    Ct Tryd.prog 35 [.slice lA l.length lc, .int .i64 i] w0 no (fun ((e0, ⟨s1, n1, x1⟩, e2, e3) : Int × Br UInt8 × Int × Int) => .tuple #[Ag [.one (.int .u64 e0), .one (.slice s1.A n1 s1.c)], .int .i64 e2, .int .i64 e3]) (fun (e0, ⟨s1, n1, x1⟩, e2, e3) => [rw_ 5 RB s1 n1 x1]) (fun (e0, ⟨s1, n1, x1⟩, e2, e3) => e0 = goV l i ∧ x1 = (goL l i) ∧ e2 = goX l i ∧ e3 = goE l i) := by
  have hst := St.start w0
  have i_l := Rw.old hl
  refine genter _ hst Tryd.func35 rfl rfl rfl rfl ?_
  have hv := valE_ok (l := l) (i := i)
  by_cases hh : getE l i 8 = 0 ∧ getN l i 8 ≤ 1125899906842624
  · have h2 : valE l i = 0 := by unfold valE; rw [if_neg (by omega)]; exact hh.1
    have h3 := hv h2
    repeat' (first
     | (refine kO ?_; first | refine gv rfl rfl ?_ | refine gnil ?_ | refine gp rfl (by (try simp only [InR]); omega) rfl ?_ | (refine kK ?_; first | refine gcall rfl ?_ rfl (fun _ _ => ?_) (fun _ _ => ?_) | refine gcv rfl rfl ?_ rfl (fun _ _ => ?_) (fun _ _ => ?_)) | refine gneq rfl rfl (by kernel_rfl) ?_ rfl ?_ | refine gbu rfl rfl rfl rfl rfl ?_ | refine ga rfl (fun _ => ?_) (fun _ => ?_) | refine gst rfl rfl rfl rfl ?_ ?_ | refine ge rfl rfl rfl rfl ?_ ?_ | refine gea rfl rfl rfl rfl rfl rfl rfl ?_ ?_ | refine gw rfl rfl ?_)
     | (refine kC ?_; first | refine gseq ?_ | refine greg ?_ | refine gret ?_ | refine gskip ?_ | (refine gcond rfl (fun h => ?_) (fun h => ?_) <;> (first | exact h.elim | (exfalso; omega) | skip)))
     | (refine kN ?_; first | refine gthen ?_)
     | (refine kR ?_; first | refine grs ?_ | refine grc ?_)
     | (refine kR ?_; refine gr rfl (rvC rfl (lvb rfl rfl) (rvT rfl (rvT rfl rv0))) (_, ⟨_, _, _⟩, _, _) rfl (er Ent.nil) ?_)
     | (refine kR ?_; refine gr rfl (rvC rfl (lvb rfl rfl) (rvT rfl (rvT rfl rv0))) (_, ⟨⟨none, 0⟩, 0, []⟩, _, _) rfl (er0 Ent.nil) ?_)
     | (refine kR ?_; refine gr rfl (rvC rfl (lvB rfl rfl rfl) (rvT rfl (rvT rfl rv0))) (_, ⟨_, _, _⟩, _, _) rfl (er Ent.nil) ?_)
     | (refine kR ?_; refine gr rfl (rvC rfl (lvB rfl rfl rfl) (rvT rfl (rvT rfl rv0))) (_, ⟨⟨none, 0⟩, 0, []⟩, _, _) rfl (er0 Ent.nil) ?_)
     | (refine Pre.mk ?_; first | exact True.intro | omega | ((repeat' (first | refine And.intro ?_ ?_ | assumption | omega)); done))
     | (refine kD ?_; first | exact dm_none))
    all_goals (unfold goV goL goX; grind [goE])
  · skip
    repeat' (first
     | (refine kO ?_; first | refine gv rfl rfl ?_ | refine gnil ?_ | refine gp rfl (by (try simp only [InR]); omega) rfl ?_ | (refine kK ?_; first | refine gcall rfl ?_ rfl (fun _ _ => ?_) (fun _ _ => ?_) | refine gcv rfl rfl ?_ rfl (fun _ _ => ?_) (fun _ _ => ?_)) | refine gneq rfl rfl (by kernel_rfl) ?_ rfl ?_ | refine gbu rfl rfl rfl rfl rfl ?_ | refine ga rfl (fun _ => ?_) (fun _ => ?_) | refine gst rfl rfl rfl rfl ?_ ?_ | refine ge rfl rfl rfl rfl ?_ ?_ | refine gea rfl rfl rfl rfl rfl rfl rfl ?_ ?_ | refine gw rfl rfl ?_)
     | (refine kC ?_; first | refine gseq ?_ | refine greg ?_ | refine gret ?_ | refine gskip ?_ | (refine gcond rfl (fun h => ?_) (fun h => ?_) <;> (first | exact h.elim | (exfalso; omega) | skip)))
     | (refine kN ?_; first | refine gthen ?_)
     | (refine kR ?_; first | refine grs ?_ | refine grc ?_)
     | (refine kR ?_; refine gr rfl (rvC rfl (lvb rfl rfl) (rvT rfl (rvT rfl rv0))) (_, ⟨_, _, _⟩, _, _) rfl (er Ent.nil) ?_)
     | (refine kR ?_; refine gr rfl (rvC rfl (lvb rfl rfl) (rvT rfl (rvT rfl rv0))) (_, ⟨⟨none, 0⟩, 0, []⟩, _, _) rfl (er0 Ent.nil) ?_)
     | (refine kR ?_; refine gr rfl (rvC rfl (lvB rfl rfl rfl) (rvT rfl (rvT rfl rv0))) (_, ⟨_, _, _⟩, _, _) rfl (er Ent.nil) ?_)
     | (refine kR ?_; refine gr rfl (rvC rfl (lvB rfl rfl rfl) (rvT rfl (rvT rfl rv0))) (_, ⟨⟨none, 0⟩, 0, []⟩, _, _) rfl (er0 Ent.nil) ?_)
     | (refine Pre.mk ?_; first | exact True.intro | omega | ((repeat' (first | refine And.intro ?_ ?_ | assumption | omega)); done))
     | (refine kD ?_; first | exact dm_none))
    all_goals (unfold goV goL goX; grind [goE, valE])
instance c_ref06_GetOut {lA : Option Addr} {lc ln : Nat} {l : List UInt8} {i : Int} {w0 : World} {X : Nat → Prop} {L : List Assn} [hl : Rw w0 X L (.slice lA ln lc) RB l] : Ctr Tryd.prog 35 [.slice lA ln lc, .int .i64 i] w0 X L (l.length ≤ 140737488351232) (fun s1 : Sv => .tuple #[Ag [.one (.int .u64 (goV l i)), .one (.slice s1.A (goL l i).length s1.c)], .int .i64 (goX l i), .int .i64 (goE l i)]) (fun s1 : Sv => rw_ 5 RB s1 (goL l i).length (goL l i) :: L) (fun s1 : Sv => (0 ≤ goV l i ∧ goV l i ≤ 1125899906842624) ∧ (goL l i).length ≤ 100 ∧ (goE l i = 0 → 0 ≤ i ∧ i + 9 ≤ goX l i ∧ goX l i ≤ l.length)) :=
  ctr' (M' := (fun s1 : Sv => [rw_ 5 RB s1 (goL l i).length (goL l i)])) (by kernel_rfl) (fun hp w hw => by have el := hl.len hw; subst el; exact ref06_GetOut _ _ _ _ w (hl.get w hw) hp) (by rintro hp ⟨e0, ⟨s1, n1, x1⟩, e2, e3⟩ ⟨rfl, rfl, rfl, rfl⟩ ok; cases ok.row; exact ⟨s1, rfl, rfl, go_ok l i⟩)
theorem ref06_May (tx : List UInt8) [htx : LenIs tx 32] (n : Int) (ht : Int) (v : Int) (base : Bool) (lockA : Option Addr) (lockc : Nat) (lock : List UInt8) (w0 : World) (hlock : Slr w0 RB (.slice lockA lock.length lockc) lock)  :
    Ct Tryd.prog 47 [Ag [.blk 32 (RB.all tx), .one (.int .u16 n), .one (.int .u32 ht), .one (.int .u64 v), .one (.bool base), .one (.slice lockA lock.length lockc)]] w0 no (fun ((e0) : Bool) => .bool e0) (fun (e0) => []) (fun (e0) => e0 = decide (mayO v lock)) := by
  have hst := St.start w0
  have i_lock := Rw.old hlock
  refine genter _ hst Tryd.func47 rfl rfl rfl rfl ?_
  repeat' (first
   | (refine kO ?_; first | refine gv rfl rfl ?_ | refine gnil ?_ | refine gl rfl (lvb rfl rfl) rfl (fun _ => ?_) | refine gl rfl (lvB rfl rfl rfl) rfl (fun _ => ?_) | refine gl rfl (lve rfl rfl) rfl (fun _ => ?_) | refine gl rfl (lvE rfl rfl rfl) rfl (fun _ => ?_) | refine gl rfl (lva rfl rfl rfl rfl rfl) rfl (fun _ => ?_) | refine gf rfl rfl rfl ?_ | (refine kK ?_; first | refine gcall rfl ?_ rfl (fun _ _ => ?_) (fun _ _ => ?_) | refine gcv rfl rfl ?_ rfl (fun _ _ => ?_) (fun _ _ => ?_)) | refine gbu rfl rfl rfl rfl rfl ?_ | refine gx rfl rfl (fun _ => ?_) (fun _ => ?_))
   | (refine kC ?_; first | refine gseq ?_ | refine greg ?_ | refine gret ?_ | refine gskip ?_)
   | (refine kN ?_; first | refine gthen ?_)
   | (refine kR ?_; first | refine grs ?_ | refine grc ?_)
   | (refine kR ?_; refine gr rfl (rvT rfl rv0) (_) rfl Ent.nil ?_)
   | (refine Pre.mk ?_; first | exact True.intro | omega | ((repeat' (first | refine And.intro ?_ ?_ | assumption | omega)); done))
   | (refine kD ?_; first | exact dm_none))
  all_goals grind
instance c_ref06_May {tx : List UInt8} {n : Int} {ht : Int} {v : Int} {base : Bool} {lockA : Option Addr} {lockc lockn : Nat} {lock : List UInt8} {w0 : World} {X : Nat → Prop} {L : List Assn} [htx : LenIs tx 32] [hlock : Rw w0 X L (.slice lockA lockn lockc) RB lock] : Ctr Tryd.prog 47 [Ag [.blk 32 (RB.all tx), .one (.int .u16 n), .one (.int .u32 ht), .one (.int .u64 v), .one (.bool base), .one (.slice lockA lockn lockc)]] w0 X L (True) (fun _ : Unit => .bool (decide (mayO v lock))) (fun _ : Unit => L) (fun _ : Unit => True) :=
  ctr' (M' := (fun _ : Unit => [])) (by kernel_rfl) (fun hp w hw => by have elock := hlock.len hw; subst elock; exact ref06_May _ _ _ _ _ _ _ _ w (hlock.get w hw)) (by rintro hp e0 rfl ok; exact ⟨(), rfl, rfl, trivial⟩)
theorem ref06_Put (tx : List UInt8) [htx : LenIs tx 32] (n : Int) (ht : Int) (v : Int) (base : Bool) (lockA : Option Addr) (lockc : Nat) (lock : List UInt8) (w0 : World) (hlock : Slr w0 RB (.slice lockA lock.length lockc) lock) (hp : 0 ≤ n ∧ n ≤ 65535 ∧ 0 ≤ ht ∧ ht ≤ 4294967295 ∧ 0 ≤ v ∧ v ≤ 18446744073709551615) :
    Ct Tryd.prog 49 [Ag [.blk 32 (RB.all tx), .one (.int .u16 n), .one (.int .u32 ht), .one (.int .u64 v), .one (.bool base), .one (.slice lockA lock.length lockc)]] w0 no (fun ((⟨s0, n0, x0⟩, e1) : Br UInt8 × Int) => .tuple #[.slice s0.A n0 s0.c, .int .i64 e1]) (fun (⟨s0, n0, x0⟩, e1) => [rw_ 5 RB s0 n0 x0]) (fun (⟨s0, n0, x0⟩, e1) => x0 = (coinL tx n ht v base lock) ∧ e1 = outE v lock) := by
  have hst := St.start w0
  have i_lock := Rw.old hlock
  refine genter _ hst Tryd.func49 rfl rfl rfl rfl ?_
  repeat' (first
   | (refine kO ?_; first | refine gv rfl rfl ?_ | refine gnil ?_ | refine gnilD ?_ | refine gl rfl (lvb rfl rfl) rfl (fun _ => ?_) | refine gl rfl (lvB rfl rfl rfl) rfl (fun _ => ?_) | refine gl rfl (lve rfl rfl) rfl (fun _ => ?_) | refine gl rfl (lvE rfl rfl rfl) rfl (fun _ => ?_) | refine gl rfl (lva rfl rfl rfl rfl rfl) rfl (fun _ => ?_) | refine gf rfl rfl rfl ?_ | (refine kK ?_; first | refine gcall rfl ?_ rfl (fun _ _ => ?_) (fun _ _ => ?_) | refine gcv rfl rfl ?_ rfl (fun _ _ => ?_) (fun _ _ => ?_)) | refine gx rfl rfl (fun _ => ?_) (fun _ => ?_) | refine gap rfl rfl rfl (by omega) rfl (fun _ => ?_) (fun _ => ?_) | refine gan rfl rfl rfl (by omega) rfl (fun _ => ?_) (fun _ => ?_) | refine gapz rfl rfl rfl rfl (by omega) rfl (fun _ => ?_) (fun _ => ?_) | refine gbs RB rfl rfl rfl rfl rfl rfl (fun _ => ?_) (fun _ => ?_) | refine gbb rfl rfl rfl (by first | (simp; done) | (simp only [and_true]; omega)) rfl rfl rfl rfl (fun _ => ?_) (fun _ => ?_))
   | (refine kC ?_; first | refine gseq ?_ | refine greg ?_ | refine gret ?_ | refine gskip ?_ | refine gdraw (id := 6) [0,1,3,4,2,5,6,7] (by kernel_rfl) (by kernel_rfl) rfl ?_ | refine gdraw (id := 7) [0,1,4,5,2,3,6,7,8,9] (by kernel_rfl) (by kernel_rfl) rfl ?_ | (refine gcond rfl (fun h => ?_) (fun h => ?_) <;> (first | exact h.elim | (exfalso; omega) | skip)))
   | (refine kN ?_; first | refine gthen ?_)
   | (refine kR ?_; first | refine grs ?_ | refine grc ?_)
   | (refine kR ?_; refine gr rfl (rvT rfl (rvT rfl rv0)) (⟨_, _, _⟩, _) rfl (er Ent.nil) ?_)
   | (refine kR ?_; refine gr rfl (rvT rfl (rvT rfl rv0)) (⟨⟨none, 0⟩, 0, []⟩, _) rfl (er0 Ent.nil) ?_)
   | (refine Pre.mk ?_; first | exact True.intro | omega | ((repeat' (first | refine And.intro ?_ ?_ | assumption | omega)); done))
   | (refine kD ?_; first | exact dm_none | exact dm0 | refine dmOff rfl ?_ | refine dmOn (lvb rfl rfl) ?_ | refine dmOn (lvB rfl rfl rfl) ?_ | refine dmOn (lve rfl rfl) ?_ | refine dmOn (lvE rfl rfl rfl) ?_ | refine dmOn (lva rfl rfl rfl rfl rfl) ?_))
  all_goals grind [coinL, outE]
instance c_ref06_Put {tx : List UInt8} {n : Int} {ht : Int} {v : Int} {base : Bool} {lockA : Option Addr} {lockc lockn : Nat} {lock : List UInt8} {w0 : World} {X : Nat → Prop} {L : List Assn} [htx : LenIs tx 32] [hlock : Rw w0 X L (.slice lockA lockn lockc) RB lock] : Ctr Tryd.prog 49 [Ag [.blk 32 (RB.all tx), .one (.int .u16 n), .one (.int .u32 ht), .one (.int .u64 v), .one (.bool base), .one (.slice lockA lockn lockc)]] w0 X L (0 ≤ n ∧ n ≤ 65535 ∧ 0 ≤ ht ∧ ht ≤ 4294967295 ∧ 0 ≤ v ∧ v ≤ 18446744073709551615) (fun s0 : Sv => .tuple #[.slice s0.A (coinL tx n ht v base lock).length s0.c, .int .i64 (outE v lock)]) (fun s0 : Sv => rw_ 5 RB s0 (coinL tx n ht v base lock).length (coinL tx n ht v base lock) :: L) (fun s0 : Sv => (coinL tx n ht v base lock).length ≤ 156) :=
  ctr' (M' := (fun s0 : Sv => [rw_ 5 RB s0 (coinL tx n ht v base lock).length (coinL tx n ht v base lock)])) (by kernel_rfl) (fun hp w hw => by have elock := hlock.len hw; subst elock; exact ref06_Put _ _ _ _ _ _ _ _ w (hlock.get w hw) hp) (by rintro hp ⟨⟨s0, n0, x0⟩, e1⟩ ⟨rfl, rfl⟩ ok; cases ok.row; exact ⟨s0, rfl, rfl, coinL_len htx.h hp⟩)
end Go.Proofs.YtdbikdbogpofbaaDoor
