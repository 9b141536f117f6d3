/-
  coin: contracts.
-/
import Derived.Test.YtdbikdbogpofbaaDoorVends
import Derived.Test.YtdbikdbogpofbaaDoorVcoinP
set_option linter.all false
set_option maxRecDepth 100000
set_option maxHeartbeats 4000000
namespace Go.Proofs.YtdbikdbogpofbaaDoor
open Go.RowKit

theorem coin_low (n : Int) (k : Int) (w0 : World)  (hp : Fit n k) :
    Ct Tryd.prog 76 [.int .u64 n, .int .i64 k] w0 no (fun ((⟨s0, n0, x0⟩) : Br UInt8) => .slice s0.A n0 s0.c) (fun (⟨s0, n0, x0⟩) => [rw_ 5 RB s0 n0 x0]) (fun (⟨s0, n0, x0⟩) => x0 = (putL n k)) := by
  have hst := St.start w0
  refine genter _ hst Tryd.func76 rfl rfl rfl rfl ?_
  have h0 := hp.1
  repeat' (first
   | (refine kO ?_; first | refine gv rfl rfl ?_ | refine gnil ?_ | (refine kK ?_; first | refine gcall rfl ?_ rfl (fun _ _ => ?_) (fun _ _ => ?_) | refine gcv rfl rfl ?_ rfl (fun _ _ => ?_) (fun _ _ => ?_)))
   | (refine kC ?_; first | refine gseq ?_ | refine greg ?_ | refine gret ?_ | refine gskip ?_)
   | (refine kN ?_; first | refine gthen ?_)
   | (refine kR ?_; first | refine grs ?_ | refine grc ?_)
   | (refine kR ?_; refine gr rfl (rvT rfl rv0) (⟨_, _, _⟩) rfl (er Ent.nil) ?_)
   | (refine kR ?_; refine gr rfl (rvT rfl rv0) (⟨⟨none, 0⟩, 0, []⟩) rfl (er0 Ent.nil) ?_)
   | (refine Pre.mk ?_; first | exact True.intro | omega | ((repeat' (first | refine And.intro ?_ ?_ | assumption | omega)); done))
   | (refine kD ?_; first | exact dm_none))
  all_goals rfl
instance c_coin_low {n : Int} {k : Int} {w0 : World} {X : Nat → Prop} {L : List Assn}  : Ctr Tryd.prog 76 [.int .u64 n, .int .i64 k] w0 X L (Fit n k) (fun s0 : Sv => .slice s0.A (putL n k).length s0.c) (fun s0 : Sv => rw_ 5 RB s0 (putL n k).length (putL n k) :: L) (fun s0 : Sv => ((putL n k).length : Int) = k) :=
  ctr' (M' := (fun s0 : Sv => [rw_ 5 RB s0 (putL n k).length (putL n k)])) (by kernel_rfl) (fun hp w hw => by exact coin_low _ _ w hp) (by rintro hp ⟨s0, n0, x0⟩ rfl ok; cases ok.row; exact ⟨s0, rfl, rfl, putL_len hp⟩)
theorem coin_PutPoint (tx : List UInt8) [htx : LenIs tx 32] (n : Int) (ht : Int) (w0 : World)  (hp : 0 ≤ n ∧ n ≤ 65535 ∧ 0 ≤ ht ∧ ht ≤ 4294967295) :
    Ct Tryd.prog 66 [Ag [.blk 32 (RB.all tx), .one (.int .u16 n), .one (.int .u32 ht)]] w0 no (fun ((⟨s0, n0, x0⟩) : Br UInt8) => .slice s0.A n0 s0.c) (fun (⟨s0, n0, x0⟩) => [rw_ 5 RB s0 n0 x0]) (fun (⟨s0, n0, x0⟩) => x0 = (pointB tx n ht)) := by
  have hst := St.start w0
  refine genter _ hst Tryd.func66 rfl rfl rfl rfl ?_
  repeat' (first
   | (refine kO ?_; first | refine gv rfl rfl ?_ | refine gnil ?_ | refine gnilD ?_ | refine gl rfl (lvb rfl rfl) rfl (fun _ => ?_) | refine gl rfl (lvB rfl rfl rfl) rfl (fun _ => ?_) | refine gl rfl (lve rfl rfl) rfl (fun _ => ?_) | refine gl rfl (lvE rfl rfl rfl) rfl (fun _ => ?_) | refine gl rfl (lva rfl rfl rfl rfl rfl) rfl (fun _ => ?_) | refine gp rfl (by (try simp only [InR]); omega) rfl ?_ | refine gf rfl rfl rfl ?_ | refine gc3 rfl rfl rfl rfl rfl rfl (by omega) rfl (fun _ => ?_) | refine gc2 rfl rfl rfl rfl rfl (by omega) rfl (fun _ => ?_) | refine gch rfl rfl rfl rfl (by omega) rfl (fun _ => ?_) | refine gcl rfl rfl rfl rfl (by omega) rfl (fun _ => ?_) | refine gca rfl rfl rfl rfl ?_ | (refine kK ?_; first | refine gcall rfl ?_ rfl (fun _ _ => ?_) (fun _ _ => ?_) | refine gcv rfl rfl ?_ rfl (fun _ _ => ?_) (fun _ _ => ?_)) | refine gx rfl rfl (fun _ => ?_) (fun _ => ?_) | refine gap rfl rfl rfl (by omega) rfl (fun _ => ?_) (fun _ => ?_) | refine gan rfl rfl rfl (by omega) rfl (fun _ => ?_) (fun _ => ?_) | refine gapz rfl rfl rfl rfl (by omega) rfl (fun _ => ?_) (fun _ => ?_) | refine gm0 rfl rfl rfl (by omega) rfl (fun _ => ?_) (fun _ => ?_) | refine gm rfl rfl rfl (by omega) rfl (fun _ => ?_) (fun _ => ?_) | refine gb rfl rfl rfl rfl ?_ | refine gw rfl rfl ?_)
   | (refine kC ?_; first | refine gseq ?_ | refine greg ?_ | refine gret ?_ | refine gskip ?_ | refine gdraw (id := 1) [1,2,0,3,4] (by kernel_rfl) (by kernel_rfl) rfl ?_)
   | (refine kN ?_; first | refine gthen ?_)
   | (refine kR ?_; first | refine grs ?_ | refine grc ?_)
   | (refine kR ?_; refine gr rfl (rvT rfl rv0) (⟨_, _, _⟩) rfl (er Ent.nil) ?_)
   | (refine kR ?_; refine gr rfl (rvT rfl rv0) (⟨⟨none, 0⟩, 0, []⟩) rfl (er0 Ent.nil) ?_)
   | (refine Pre.mk ?_; first | exact True.intro | omega | ((repeat' (first | refine And.intro ?_ ?_ | assumption | omega)); done))
   | (refine kD ?_; first | exact dm_none | exact dm0 | refine dmOff rfl ?_ | refine dmOn (lvb rfl rfl) ?_ | refine dmOn (lvB rfl rfl rfl) ?_ | refine dmOn (lve rfl rfl) ?_ | refine dmOn (lvE rfl rfl rfl) ?_ | refine dmOn (lva rfl rfl rfl rfl rfl) ?_))
  all_goals simp [pointB]
instance c_coin_PutPoint {tx : List UInt8} {n : Int} {ht : Int} {w0 : World} {X : Nat → Prop} {L : List Assn} [htx : LenIs tx 32] : Ctr Tryd.prog 66 [Ag [.blk 32 (RB.all tx), .one (.int .u16 n), .one (.int .u32 ht)]] w0 X L (0 ≤ n ∧ n ≤ 65535 ∧ 0 ≤ ht ∧ ht ≤ 4294967295) (fun s0 : Sv => .slice s0.A (pointB tx n ht).length s0.c) (fun s0 : Sv => rw_ 5 RB s0 (pointB tx n ht).length (pointB tx n ht) :: L) (fun s0 : Sv => (pointB tx n ht).length = 38) :=
  ctr' (M' := (fun s0 : Sv => [rw_ 5 RB s0 (pointB tx n ht).length (pointB tx n ht)])) (by kernel_rfl) (fun hp w hw => by exact coin_PutPoint _ _ _ w hp) (by rintro hp ⟨s0, n0, x0⟩ rfl ok; cases ok.row; exact ⟨s0, rfl, rfl, pointB_len htx.h hp⟩)
theorem coin_GetPoint (lA : Option Addr) (lc : Nat) (l : List UInt8) (i : Int) (w0 : World) (hl : Slr w0 RB (.slice lA l.length lc) l) (hp : l.length ≤ 140737488351232) :
    Ct Tryd.prog 57 [.slice lA l.length lc, .int .i64 i] w0 no (fun ((e0, e1, e2, e3, e4) : List UInt8 × Int × Int × Int × Int) => .tuple #[Ag [.blk 32 (RB.all e0), .one (.int .u16 e1), .one (.int .u32 e2)], .int .i64 e3, .int .i64 e4]) (fun (e0, e1, e2, e3, e4) => []) (fun (e0, e1, e2, e3, e4) => e0 = (ptH l i).l ∧ e1 = ptN l i ∧ e2 = ptT l i ∧ e3 = ptX l i ∧ e4 = ptE l i) := by
  have hst := St.start w0
  have i_l := Rw.old hl
  refine genter _ hst Tryd.func57 rfl rfl rfl rfl ?_
  have h2 := getN_2 (partL l i 38) 32
  have h4 := getN_4 (partL l i 38) 34
  by_cases hh : partE l i 38 = 0
  · have h5 := partL_len hh
    have h6 := partE_ok hh
    repeat' (first
     | (refine kO ?_; first | refine gap0 rfl rfl rfl rfl (by omega) rfl (fun _ => ?_) | refine gv rfl rfl ?_ | refine gnil ?_ | refine gl rfl (lvb rfl rfl) rfl (fun _ => ?_) | refine gl rfl (lvB rfl rfl rfl) rfl (fun _ => ?_) | refine gl rfl (lve rfl rfl) rfl (fun _ => ?_) | refine gl rfl (lvE rfl rfl rfl) rfl (fun _ => ?_) | refine gl rfl (lva rfl rfl rfl rfl rfl) rfl (fun _ => ?_) | refine gl rfl (lvh rfl rfl (by omega)) rfl (fun _ => ?_) | refine gp rfl (by (try simp only [InR]); omega) rfl ?_ | refine gc3 rfl rfl rfl rfl rfl rfl (by omega) rfl (fun _ => ?_) | refine gc2 rfl rfl rfl rfl rfl (by omega) rfl (fun _ => ?_) | refine gch rfl rfl rfl rfl (by omega) rfl (fun _ => ?_) | refine gcl rfl rfl rfl rfl (by omega) rfl (fun _ => ?_) | refine gca rfl rfl rfl rfl ?_ | (refine kK ?_; first | refine gcall rfl ?_ rfl (fun _ _ => ?_) (fun _ _ => ?_) | refine gcv rfl rfl ?_ rfl (fun _ _ => ?_) (fun _ _ => ?_)) | refine gneq rfl rfl (by kernel_rfl) ?_ rfl ?_ | refine gbu rfl rfl rfl rfl rfl ?_ | refine ga rfl (fun _ => ?_) (fun _ => ?_) | refine gst rfl rfl rfl rfl ?_ ?_ | refine ge rfl rfl rfl rfl ?_ ?_ | refine gea rfl rfl rfl rfl rfl rfl rfl ?_ ?_ | refine gb rfl rfl rfl rfl ?_ | refine gw rfl rfl ?_)
     | (refine kC ?_; first | refine gseq ?_ | refine greg ?_ | refine gret ?_ | refine gskip ?_ | (refine gcond rfl (fun h => ?_) (fun h => ?_) <;> (first | exact h.elim | (exfalso; omega) | skip)))
     | (refine kN ?_; first | refine gthen ?_)
     | (refine kR ?_; first | refine grs ?_ | refine grc ?_)
     | (refine kR ?_; refine gr rfl (rvC rfl (lvb rfl rfl) (rvT rfl (rvT rfl rv0))) (_, _, _, _, _) rfl Ent.nil ?_)
     | (refine kR ?_; refine gr rfl (rvC rfl (lvB rfl rfl rfl) (rvT rfl (rvT rfl rv0))) (_, _, _, _, _) rfl Ent.nil ?_)
     | (refine Pre.mk ?_; first | exact True.intro | omega | ((repeat' (first | refine And.intro ?_ ?_ | assumption | omega)); done))
     | (refine kD ?_; first | exact dm_none))
    all_goals simp [ptH, ptN, ptT, ptX, ptE, hh, List.take_take]
  · skip
    repeat' (first
     | (refine kO ?_; first | refine gap0 rfl rfl rfl rfl (by omega) rfl (fun _ => ?_) | refine gv rfl rfl ?_ | refine gnil ?_ | refine gl rfl (lvb rfl rfl) rfl (fun _ => ?_) | refine gl rfl (lvB rfl rfl rfl) rfl (fun _ => ?_) | refine gl rfl (lve rfl rfl) rfl (fun _ => ?_) | refine gl rfl (lvE rfl rfl rfl) rfl (fun _ => ?_) | refine gl rfl (lva rfl rfl rfl rfl rfl) rfl (fun _ => ?_) | refine gl rfl (lvh rfl rfl (by omega)) rfl (fun _ => ?_) | refine gp rfl (by (try simp only [InR]); omega) rfl ?_ | refine gc3 rfl rfl rfl rfl rfl rfl (by omega) rfl (fun _ => ?_) | refine gc2 rfl rfl rfl rfl rfl (by omega) rfl (fun _ => ?_) | refine gch rfl rfl rfl rfl (by omega) rfl (fun _ => ?_) | refine gcl rfl rfl rfl rfl (by omega) rfl (fun _ => ?_) | refine gca rfl rfl rfl rfl ?_ | (refine kK ?_; first | refine gcall rfl ?_ rfl (fun _ _ => ?_) (fun _ _ => ?_) | refine gcv rfl rfl ?_ rfl (fun _ _ => ?_) (fun _ _ => ?_)) | refine gneq rfl rfl (by kernel_rfl) ?_ rfl ?_ | refine gbu rfl rfl rfl rfl rfl ?_ | refine ga rfl (fun _ => ?_) (fun _ => ?_) | refine gst rfl rfl rfl rfl ?_ ?_ | refine ge rfl rfl rfl rfl ?_ ?_ | refine gea rfl rfl rfl rfl rfl rfl rfl ?_ ?_ | refine gb rfl rfl rfl rfl ?_ | refine gw rfl rfl ?_)
     | (refine kC ?_; first | refine gseq ?_ | refine greg ?_ | refine gret ?_ | refine gskip ?_ | (refine gcond rfl (fun h => ?_) (fun h => ?_) <;> (first | exact h.elim | (exfalso; omega) | skip)))
     | (refine kN ?_; first | refine gthen ?_)
     | (refine kR ?_; first | refine grs ?_ | refine grc ?_)
     | (refine kR ?_; refine gr rfl (rvC rfl (lvb rfl rfl) (rvT rfl (rvT rfl rv0))) (_, _, _, _, _) rfl Ent.nil ?_)
     | (refine kR ?_; refine gr rfl (rvC rfl (lvB rfl rfl rfl) (rvT rfl (rvT rfl rv0))) (_, _, _, _, _) rfl Ent.nil ?_)
     | (refine Pre.mk ?_; first | exact True.intro | omega | ((repeat' (first | refine And.intro ?_ ?_ | assumption | omega)); done))
     | (refine kD ?_; first | exact dm_none))
    all_goals (unfold ptH ptN ptT ptX ptE; grind [zH])
instance c_coin_GetPoint {lA : Option Addr} {lc ln : Nat} {l : List UInt8} {i : Int} {w0 : World} {X : Nat → Prop} {L : List Assn} [hl : Rw w0 X L (.slice lA ln lc) RB l] : Ctr Tryd.prog 57 [.slice lA ln lc, .int .i64 i] w0 X L (l.length ≤ 140737488351232) (fun _ : Unit => .tuple #[Ag [.blk 32 (RB.all (ptH l i).l), .one (.int .u16 (ptN l i)), .one (.int .u32 (ptT l i))], .int .i64 (ptX l i), .int .i64 (ptE l i)]) (fun _ : Unit => L) (fun _ : Unit => (0 ≤ ptN l i ∧ ptN l i ≤ 65535 ∧ 0 ≤ ptT l i ∧ ptT l i ≤ 4294967295) ∧ (ptE l i = 0 → ptX l i = i + 38 ∧ 0 ≤ i ∧ i + 38 ≤ l.length)) :=
  ctr' (M' := (fun _ : Unit => [])) (by kernel_rfl) (fun hp w hw => by have el := hl.len hw; subst el; exact coin_GetPoint _ _ _ _ w (hl.get w hw) hp) (by rintro hp ⟨e0, e1, e2, e3, e4⟩ ⟨rfl, rfl, rfl, rfl, rfl⟩ ok; exact ⟨(), rfl, rfl, ⟨pt_b l i, pt_ok⟩⟩)
theorem coin_may (v : Int) (lockA : Option Addr) (lockc : Nat) (lock : List UInt8) (w0 : World) (hlock : Slr w0 RB (.slice lockA lock.length lockc) lock)  :
    Ct Tryd.prog 75 [.int .u64 v, .slice lockA lock.length lockc] w0 no (fun ((e0) : Bool) => .bool e0) (fun (e0) => []) (fun (e0) => e0 = decide (mayO v lock)) := by
  have hst := St.start w0
  have i_lock := Rw.old hlock
  refine genter _ hst Tryd.func75 rfl rfl rfl rfl ?_
  repeat' (first
   | (refine kO ?_; first | refine gv rfl rfl ?_ | refine gnil ?_ | refine gp rfl (by (try simp only [InR]); omega) rfl ?_ | (refine kK ?_; first | refine gcall rfl ?_ rfl (fun _ _ => ?_) (fun _ _ => ?_) | refine gcv rfl rfl ?_ rfl (fun _ _ => ?_) (fun _ _ => ?_)) | (refine kg ?_; (first | refine guardT rfl rfl rfl rfl (fun h => ?_) (fun h => ?_) | refine guardF rfl rfl rfl rfl (fun h => ?_) (fun h => ?_) | refine guardU rfl rfl rfl rfl ?_ | refine guardTH rfl rfl rfl rfl ?_ (fun h => ?_) (fun h => ?_) | refine guardFH rfl rfl rfl rfl ?_ (fun h => ?_) (fun h => ?_) | refine guardUH rfl rfl rfl rfl ?_ ?_) <;> (first | exact h.elim | (exfalso; omega) | skip)))
   | (refine kC ?_; first | refine gseq ?_ | refine greg ?_ | refine gret ?_ | refine gskip ?_)
   | (refine kN ?_; first | refine gthen ?_)
   | (refine kR ?_; first | refine grs ?_ | refine grc ?_)
   | (refine kR ?_; refine gr rfl (rvT rfl rv0) (_) rfl Ent.nil ?_)
   | (refine Pre.mk ?_; first | exact True.intro | omega | ((repeat' (first | refine And.intro ?_ ?_ | assumption | omega)); done))
   | (refine kD ?_; first | exact dm_none))
  all_goals grind
instance c_coin_may {v : Int} {lockA : Option Addr} {lockc lockn : Nat} {lock : List UInt8} {w0 : World} {X : Nat → Prop} {L : List Assn} [hlock : Rw w0 X L (.slice lockA lockn lockc) RB lock] : Ctr Tryd.prog 75 [.int .u64 v, .slice lockA lockn lockc] w0 X L (True) (fun _ : Unit => .bool (decide (mayO v lock))) (fun _ : Unit => L) (fun _ : Unit => True) :=
  ctr' (M' := (fun _ : Unit => [])) (by kernel_rfl) (fun hp w hw => by have elock := hlock.len hw; subst elock; exact coin_may _ _ _ _ w (hlock.get w hw)) (by rintro hp e0 rfl ok; exact ⟨(), rfl, rfl, trivial⟩)
theorem coin_PutOut (v : Int) (lockA : Option Addr) (lockc : Nat) (lock : List UInt8) (w0 : World) (hlock : Slr w0 RB (.slice lockA lock.length lockc) lock) (hp : 0 ≤ v ∧ v ≤ 18446744073709551615) :
    Ct Tryd.prog 68 [Ag [.one (.int .u64 v), .one (.slice lockA lock.length lockc)]] w0 no (fun ((⟨s0, n0, x0⟩, e1) : Br UInt8 × Int) => .tuple #[.slice s0.A n0 s0.c, .int .i64 e1]) (fun (⟨s0, n0, x0⟩, e1) => [rw_ 5 RB s0 n0 x0]) (fun (⟨s0, n0, x0⟩, e1) => x0 = (outL v lock) ∧ e1 = outE v lock) := by
  have hst := St.start w0
  have i_lock := Rw.old hlock
  refine genter _ hst Tryd.func68 rfl rfl rfl rfl ?_
  repeat' (first
   | (refine kO ?_; first | refine gv rfl rfl ?_ | refine gnil ?_ | refine gnilD ?_ | refine gl rfl (lvb rfl rfl) rfl (fun _ => ?_) | refine gl rfl (lvB rfl rfl rfl) rfl (fun _ => ?_) | refine gl rfl (lve rfl rfl) rfl (fun _ => ?_) | refine gl rfl (lvE rfl rfl rfl) rfl (fun _ => ?_) | refine gl rfl (lva rfl rfl rfl rfl rfl) rfl (fun _ => ?_) | refine gf rfl rfl rfl ?_ | (refine kK ?_; first | refine gcall rfl ?_ rfl (fun _ _ => ?_) (fun _ _ => ?_) | refine gcv rfl rfl ?_ rfl (fun _ _ => ?_) (fun _ _ => ?_)) | refine gx rfl rfl (fun _ => ?_) (fun _ => ?_) | refine gap rfl rfl rfl (by omega) rfl (fun _ => ?_) (fun _ => ?_) | refine gan rfl rfl rfl (by omega) rfl (fun _ => ?_) (fun _ => ?_) | refine gapz rfl rfl rfl rfl (by omega) rfl (fun _ => ?_) (fun _ => ?_))
   | (refine kC ?_; first | refine gseq ?_ | refine greg ?_ | refine gret ?_ | refine gskip ?_ | refine gdraw (id := 3) [0,1,3,4,2,5,6,7,8] (by kernel_rfl) (by kernel_rfl) rfl ?_ | (refine gcond rfl (fun h => ?_) (fun h => ?_) <;> (first | exact h.elim | (exfalso; omega) | skip)))
   | (refine kN ?_; first | refine gthen ?_)
   | (refine kR ?_; first | refine grs ?_ | refine grc ?_)
   | (refine kR ?_; refine gr rfl (rvT rfl (rvT rfl rv0)) (⟨_, _, _⟩, _) rfl (er Ent.nil) ?_)
   | (refine kR ?_; refine gr rfl (rvT rfl (rvT rfl rv0)) (⟨⟨none, 0⟩, 0, []⟩, _) rfl (er0 Ent.nil) ?_)
   | (refine Pre.mk ?_; first | exact True.intro | omega | ((repeat' (first | refine And.intro ?_ ?_ | assumption | omega)); done))
   | (refine kD ?_; first | exact dm_none | exact dm0 | refine dmOff rfl ?_ | refine dmOn (lvb rfl rfl) ?_ | refine dmOn (lvB rfl rfl rfl) ?_ | refine dmOn (lve rfl rfl) ?_ | refine dmOn (lvE rfl rfl rfl) ?_ | refine dmOn (lva rfl rfl rfl rfl rfl) ?_))
  all_goals grind [outL, outE]
instance c_coin_PutOut {v : Int} {lockA : Option Addr} {lockc lockn : Nat} {lock : List UInt8} {w0 : World} {X : Nat → Prop} {L : List Assn} [hlock : Rw w0 X L (.slice lockA lockn lockc) RB lock] : Ctr Tryd.prog 68 [Ag [.one (.int .u64 v), .one (.slice lockA lockn lockc)]] w0 X L (0 ≤ v ∧ v ≤ 18446744073709551615) (fun s0 : Sv => .tuple #[.slice s0.A (outL v lock).length s0.c, .int .i64 (outE v lock)]) (fun s0 : Sv => rw_ 5 RB s0 (outL v lock).length (outL v lock) :: L) (fun s0 : Sv => (outL v lock).length ≤ 117) :=
  ctr' (M' := (fun s0 : Sv => [rw_ 5 RB s0 (outL v lock).length (outL v lock)])) (by kernel_rfl) (fun hp w hw => by have elock := hlock.len hw; subst elock; exact coin_PutOut _ _ _ _ w (hlock.get w hw) hp) (by rintro hp ⟨⟨s0, n0, x0⟩, e1⟩ ⟨rfl, rfl⟩ ok; cases ok.row; exact ⟨s0, rfl, rfl, outL_len _ _ hp⟩)
theorem coin_value (lA : Option Addr) (lc : Nat) (l : List UInt8) (i : Int) (w0 : World) (hl : Slr w0 RB (.slice lA l.length lc) l) (hp : l.length ≤ 140737488351232) :
    Ct Tryd.prog 83 [.slice lA l.length lc, .int .i64 i] w0 no (fun ((e0, e1) : Int × Int) => .tuple #[.int .u64 e0, .int .i64 e1]) (fun (e0, e1) => []) (fun (e0, e1) => e0 = getN l i 8 ∧ e1 = valE l i) := by
  have hst := St.start w0
  have i_l := Rw.old hl
  refine genter _ hst Tryd.func83 rfl rfl rfl rfl ?_
  repeat' (first
   | (refine kO ?_; first | refine gv rfl rfl ?_ | refine gnil ?_ | refine gp rfl (by (try simp only [InR]); omega) rfl ?_ | (refine kK ?_; first | refine gcall rfl ?_ rfl (fun _ _ => ?_) (fun _ _ => ?_) | refine gcv rfl rfl ?_ rfl (fun _ _ => ?_) (fun _ _ => ?_)) | refine geql rfl rfl (by kernel_rfl) ?_ rfl ?_ | (refine kg ?_; (first | refine guardT rfl rfl rfl rfl (fun h => ?_) (fun h => ?_) | refine guardF rfl rfl rfl rfl (fun h => ?_) (fun h => ?_) | refine guardU rfl rfl rfl rfl ?_ | refine guardTH rfl rfl rfl rfl ?_ (fun h => ?_) (fun h => ?_) | refine guardFH rfl rfl rfl rfl ?_ (fun h => ?_) (fun h => ?_) | refine guardUH rfl rfl rfl rfl ?_ ?_) <;> (first | exact h.elim | (exfalso; omega) | skip)))
   | (refine kC ?_; first | refine gseq ?_ | refine greg ?_ | refine gret ?_ | refine gskip ?_ | (refine gcond rfl (fun h => ?_) (fun h => ?_) <;> (first | exact h.elim | (exfalso; omega) | skip)))
   | (refine kN ?_; first | refine gthen ?_)
   | (refine kR ?_; first | refine grs ?_ | refine grc ?_)
   | (refine kR ?_; refine gr rfl (rvT rfl (rvT rfl rv0)) (_, _) rfl Ent.nil ?_)
   | (refine Pre.mk ?_; first | exact True.intro | omega | ((repeat' (first | refine And.intro ?_ ?_ | assumption | omega)); done))
   | (refine kD ?_; first | exact dm_none))
  all_goals grind [valE]
instance c_coin_value {lA : Option Addr} {lc ln : Nat} {l : List UInt8} {i : Int} {w0 : World} {X : Nat → Prop} {L : List Assn} [hl : Rw w0 X L (.slice lA ln lc) RB l] : Ctr Tryd.prog 83 [.slice lA ln lc, .int .i64 i] w0 X L (l.length ≤ 140737488351232) (fun _ : Unit => .tuple #[.int .u64 (getN l i 8), .int .i64 (valE l i)]) (fun _ : Unit => L) (fun _ : Unit => (0 ≤ getN l i 8 ∧ getN l i 8 ≤ 18446744073709551615) ∧ (valE l i = 0 → 0 ≤ i ∧ i + 8 ≤ l.length)) :=
  ctr' (M' := (fun _ : Unit => [])) (by kernel_rfl) (fun hp w hw => by have el := hl.len hw; subst el; exact coin_value _ _ _ _ w (hl.get w hw) hp) (by rintro hp ⟨e0, e1⟩ ⟨rfl, rfl⟩ ok; exact ⟨(), rfl, rfl, ⟨getN_b _ _ _, valE_ok⟩⟩)
theorem coin_GetOut (lA : Option Addr) (lc : Nat) (l : List UInt8) (i : Int) (w0 : World) (hl : Slr w0 RB (.slice lA l.length lc) l) (hp : l.length ≤ 140737488351232) :
    Ct Tryd.prog 59 [.slice lA l.length lc, .int .i64 i] w0 no (fun ((e0, ⟨s1, n1, x1⟩, e2, e3) : Int × Br UInt8 × Int × Int) => .tuple #[Ag [.one (.int .u64 e0), .one (.slice s1.A n1 s1.c)], .int .i64 e2, .int .i64 e3]) (fun (e0, ⟨s1, n1, x1⟩, e2, e3) => [rw_ 5 RB s1 n1 x1]) (fun (e0, ⟨s1, n1, x1⟩, e2, e3) => e0 = goV l i ∧ x1 = (goL l i) ∧ e2 = goX l i ∧ e3 = goE l i) := by
  have hst := St.start w0
  have i_l := Rw.old hl
  refine genter _ hst Tryd.func59 rfl rfl rfl rfl ?_
  repeat' (first
   | (refine kO ?_; first | refine gv rfl rfl ?_ | refine gnil ?_ | refine gp rfl (by (try simp only [InR]); omega) rfl ?_ | (refine kK ?_; first | refine gcall rfl ?_ rfl (fun _ _ => ?_) (fun _ _ => ?_) | refine gcv rfl rfl ?_ rfl (fun _ _ => ?_) (fun _ _ => ?_)) | refine gneq rfl rfl (by kernel_rfl) ?_ rfl ?_ | refine gbu rfl rfl rfl rfl rfl ?_ | refine ga rfl (fun _ => ?_) (fun _ => ?_) | refine gst rfl rfl rfl rfl ?_ ?_ | refine ge rfl rfl rfl rfl ?_ ?_ | refine gea rfl rfl rfl rfl rfl rfl rfl ?_ ?_ | refine gw rfl rfl ?_)
   | (refine kC ?_; first | refine gseq ?_ | refine greg ?_ | refine gret ?_ | refine gskip ?_ | (refine gcond rfl (fun h => ?_) (fun h => ?_) <;> (first | exact h.elim | (exfalso; omega) | skip)))
   | (refine kN ?_; first | refine gthen ?_)
   | (refine kR ?_; first | refine grs ?_ | refine grc ?_)
   | (refine kR ?_; refine gr rfl (rvC rfl (lvb rfl rfl) (rvT rfl (rvT rfl rv0))) (_, ⟨_, _, _⟩, _, _) rfl (er Ent.nil) ?_)
   | (refine kR ?_; refine gr rfl (rvC rfl (lvb rfl rfl) (rvT rfl (rvT rfl rv0))) (_, ⟨⟨none, 0⟩, 0, []⟩, _, _) rfl (er0 Ent.nil) ?_)
   | (refine kR ?_; refine gr rfl (rvC rfl (lvB rfl rfl rfl) (rvT rfl (rvT rfl rv0))) (_, ⟨_, _, _⟩, _, _) rfl (er Ent.nil) ?_)
   | (refine kR ?_; refine gr rfl (rvC rfl (lvB rfl rfl rfl) (rvT rfl (rvT rfl rv0))) (_, ⟨⟨none, 0⟩, 0, []⟩, _, _) rfl (er0 Ent.nil) ?_)
   | (refine Pre.mk ?_; first | exact True.intro | omega | ((repeat' (first | refine And.intro ?_ ?_ | assumption | omega)); done))
   | (refine kD ?_; first | exact dm_none))
  all_goals (unfold goV goL goX; grind [goE])
instance c_coin_GetOut {lA : Option Addr} {lc ln : Nat} {l : List UInt8} {i : Int} {w0 : World} {X : Nat → Prop} {L : List Assn} [hl : Rw w0 X L (.slice lA ln lc) RB l] : Ctr Tryd.prog 59 [.slice lA ln lc, .int .i64 i] w0 X L (l.length ≤ 140737488351232) (fun s1 : Sv => .tuple #[Ag [.one (.int .u64 (goV l i)), .one (.slice s1.A (goL l i).length s1.c)], .int .i64 (goX l i), .int .i64 (goE l i)]) (fun s1 : Sv => rw_ 5 RB s1 (goL l i).length (goL l i) :: L) (fun s1 : Sv => (0 ≤ goV l i ∧ goV l i ≤ 1125899906842624) ∧ (goL l i).length ≤ 100 ∧ (goE l i = 0 → 0 ≤ i ∧ i + 9 ≤ goX l i ∧ goX l i ≤ l.length)) :=
  ctr' (M' := (fun s1 : Sv => [rw_ 5 RB s1 (goL l i).length (goL l i)])) (by kernel_rfl) (fun hp w hw => by have el := hl.len hw; subst el; exact coin_GetOut _ _ _ _ w (hl.get w hw) hp) (by rintro hp ⟨e0, ⟨s1, n1, x1⟩, e2, e3⟩ ⟨rfl, rfl, rfl, rfl⟩ ok; cases ok.row; exact ⟨s1, rfl, rfl, go_ok l i⟩)
theorem coin_Put (tx : List UInt8) [htx : LenIs tx 32] (n : Int) (ht : Int) (v : Int) (base : Bool) (lockA : Option Addr) (lockc : Nat) (lock : List UInt8) (w0 : World) (hlock : Slr w0 RB (.slice lockA lock.length lockc) lock) (hp : 0 ≤ n ∧ n ≤ 65535 ∧ 0 ≤ ht ∧ ht ≤ 4294967295 ∧ 0 ≤ v ∧ v ≤ 18446744073709551615) :
    Ct Tryd.prog 43 [Ag [.blk 32 (RB.all tx), .one (.int .u16 n), .one (.int .u32 ht), .one (.int .u64 v), .one (.bool base), .one (.slice lockA lock.length lockc)]] w0 no (fun ((⟨s0, n0, x0⟩, e1) : Br UInt8 × Int) => .tuple #[.slice s0.A n0 s0.c, .int .i64 e1]) (fun (⟨s0, n0, x0⟩, e1) => [rw_ 5 RB s0 n0 x0]) (fun (⟨s0, n0, x0⟩, e1) => x0 = (coinL tx n ht v base lock) ∧ e1 = outE v lock) := by
  have hst := St.start w0
  have i_lock := Rw.old hlock
  refine genter _ hst Tryd.func43 rfl rfl rfl rfl ?_
  repeat' (first
   | (refine kO ?_; first | refine gv rfl rfl ?_ | refine gnil ?_ | refine gnilD ?_ | refine gl rfl (lvb rfl rfl) rfl (fun _ => ?_) | refine gl rfl (lvB rfl rfl rfl) rfl (fun _ => ?_) | refine gl rfl (lve rfl rfl) rfl (fun _ => ?_) | refine gl rfl (lvE rfl rfl rfl) rfl (fun _ => ?_) | refine gl rfl (lva rfl rfl rfl rfl rfl) rfl (fun _ => ?_) | refine gf rfl rfl rfl ?_ | (refine kK ?_; first | refine gcall rfl ?_ rfl (fun _ _ => ?_) (fun _ _ => ?_) | refine gcv rfl rfl ?_ rfl (fun _ _ => ?_) (fun _ _ => ?_)) | refine gx rfl rfl (fun _ => ?_) (fun _ => ?_) | refine gap rfl rfl rfl (by omega) rfl (fun _ => ?_) (fun _ => ?_) | refine gan rfl rfl rfl (by omega) rfl (fun _ => ?_) (fun _ => ?_) | refine gapz rfl rfl rfl rfl (by omega) rfl (fun _ => ?_) (fun _ => ?_) | refine gbs RB rfl rfl rfl rfl rfl rfl (fun _ => ?_) (fun _ => ?_) | refine gbb rfl rfl rfl (by first | (simp; done) | (simp only [and_true]; omega)) rfl rfl rfl rfl (fun _ => ?_) (fun _ => ?_))
   | (refine kC ?_; first | refine gseq ?_ | refine greg ?_ | refine gret ?_ | refine gskip ?_ | refine gdraw (id := 3) [0,1,3,4,2,5,6,7] (by kernel_rfl) (by kernel_rfl) rfl ?_ | (refine gcond rfl (fun h => ?_) (fun h => ?_) <;> (first | exact h.elim | (exfalso; omega) | skip)))
   | (refine kN ?_; first | refine gthen ?_)
   | (refine kR ?_; first | refine grs ?_ | refine grc ?_)
   | (refine kR ?_; refine gr rfl (rvT rfl (rvT rfl rv0)) (⟨_, _, _⟩, _) rfl (er Ent.nil) ?_)
   | (refine kR ?_; refine gr rfl (rvT rfl (rvT rfl rv0)) (⟨⟨none, 0⟩, 0, []⟩, _) rfl (er0 Ent.nil) ?_)
   | (refine Pre.mk ?_; first | exact True.intro | omega | ((repeat' (first | refine And.intro ?_ ?_ | assumption | omega)); done))
   | (refine kD ?_; first | exact dm_none | exact dm0 | refine dmOff rfl ?_ | refine dmOn (lvb rfl rfl) ?_ | refine dmOn (lvB rfl rfl rfl) ?_ | refine dmOn (lve rfl rfl) ?_ | refine dmOn (lvE rfl rfl rfl) ?_ | refine dmOn (lva rfl rfl rfl rfl rfl) ?_))
  all_goals grind [coinL, outE]
instance c_coin_Put {tx : List UInt8} {n : Int} {ht : Int} {v : Int} {base : Bool} {lockA : Option Addr} {lockc lockn : Nat} {lock : List UInt8} {w0 : World} {X : Nat → Prop} {L : List Assn} [htx : LenIs tx 32] [hlock : Rw w0 X L (.slice lockA lockn lockc) RB lock] : Ctr Tryd.prog 43 [Ag [.blk 32 (RB.all tx), .one (.int .u16 n), .one (.int .u32 ht), .one (.int .u64 v), .one (.bool base), .one (.slice lockA lockn lockc)]] w0 X L (0 ≤ n ∧ n ≤ 65535 ∧ 0 ≤ ht ∧ ht ≤ 4294967295 ∧ 0 ≤ v ∧ v ≤ 18446744073709551615) (fun s0 : Sv => .tuple #[.slice s0.A (coinL tx n ht v base lock).length s0.c, .int .i64 (outE v lock)]) (fun s0 : Sv => rw_ 5 RB s0 (coinL tx n ht v base lock).length (coinL tx n ht v base lock) :: L) (fun s0 : Sv => (coinL tx n ht v base lock).length ≤ 156) :=
  ctr' (M' := (fun s0 : Sv => [rw_ 5 RB s0 (coinL tx n ht v base lock).length (coinL tx n ht v base lock)])) (by kernel_rfl) (fun hp w hw => by have elock := hlock.len hw; subst elock; exact coin_Put _ _ _ _ _ _ _ _ w (hlock.get w hw) hp) (by rintro hp ⟨⟨s0, n0, x0⟩, e1⟩ ⟨rfl, rfl⟩ ok; cases ok.row; exact ⟨s0, rfl, rfl, coinL_len htx.h hp⟩)
end Go.Proofs.YtdbikdbogpofbaaDoor
