/-
  coin: contracts.
-/
import Derived.Test.YtalainpmlonahaaDoorVends
import Derived.Test.YtalainpmlonahaaDoorVcoinP
set_option linter.all false
set_option maxRecDepth 100000
set_option maxHeartbeats 4000000
namespace Go.Proofs.YtalainpmlonahaaDoor
open Go.RowKit

theorem coin_low (n : Int) (k : Int) (w0 : World)  (hp : Fit n k) :
    Ct Tryd.prog 101 [.int .u64 n, .int .i64 k] w0 no (fun ((⟨s0, n0, x0⟩) : Br UInt8) => .slice s0.A n0 s0.c) (fun (⟨s0, n0, x0⟩) => [rw_ 5 RB s0 n0 x0]) (fun (⟨s0, n0, x0⟩) => x0 = (putL n k)) := by
  have hst := St.start w0
  refine genter _ hst Tryd.func101 rfl rfl rfl rfl ?_
  have h0 := hp.1
  repeat' (first
   | (refine z1 ?_; intros)
   | (refine z2 ?_ ?_ <;> first | exact zi | intro h | skip)
   | (refine kR ?_; refine zr (⟨⟨_, _⟩, _, _⟩) ?_)
   | (refine kO ?_; refine zc ?_ ?_ <;> intros))
  all_goals rfl
instance c_coin_low {n : Int} {k : Int} {w0 : World} {X : Nat → Prop} {L : List Assn}  : Ctr Tryd.prog 101 [.int .u64 n, .int .i64 k] w0 X L (Fit n k) (fun s0 : Sv => .slice s0.A (putL n k).length s0.c) (fun s0 : Sv => rw_ 5 RB s0 (putL n k).length (putL n k) :: L) (fun s0 : Sv => ((putL n k).length : Int) = k) :=
  ctr' (M' := (fun s0 : Sv => [rw_ 5 RB s0 (putL n k).length (putL n k)])) (by kernel_rfl) (fun hp w hw => by exact coin_low _ _ w hp) (by rintro hp ⟨s0, n0, x0⟩ rfl ok; cases ok.row; exact ⟨s0, rfl, rfl, putL_len hp⟩)
theorem coin_PutPoint (tx : List UInt8) [htx : LenIs tx 32] (n : Int) (ht : Int) (w0 : World)  (hp : 0 ≤ n ∧ n ≤ 65535 ∧ 0 ≤ ht ∧ ht ≤ 4294967295) :
    Ct Tryd.prog 86 [Ag [.blk 32 (RB.all tx), .one (.int .u16 n), .one (.int .u32 ht)]] w0 no (fun ((⟨s0, n0, x0⟩) : Br UInt8) => .slice s0.A n0 s0.c) (fun (⟨s0, n0, x0⟩) => [rw_ 5 RB s0 n0 x0]) (fun (⟨s0, n0, x0⟩) => x0 = (pointB tx n ht)) := by
  have hst := St.start w0
  refine genter _ hst Tryd.func86 rfl rfl rfl rfl ?_
  repeat' (first
   | refine gdraw (id := 1) [1,2,0,3,4] (by kernel_rfl) (by kernel_rfl) rfl ?_
   | (refine z1 ?_; intros)
   | (refine z2 ?_ ?_ <;> first | exact zi | intro h | skip)
   | (refine kR ?_; refine zr (⟨⟨_, _⟩, _, _⟩) ?_)
   | (refine kO ?_; refine zc ?_ ?_ <;> intros))
  all_goals simp [pointB]
instance c_coin_PutPoint {tx : List UInt8} {n : Int} {ht : Int} {w0 : World} {X : Nat → Prop} {L : List Assn} [htx : LenIs tx 32] : Ctr Tryd.prog 86 [Ag [.blk 32 (RB.all tx), .one (.int .u16 n), .one (.int .u32 ht)]] w0 X L (0 ≤ n ∧ n ≤ 65535 ∧ 0 ≤ ht ∧ ht ≤ 4294967295) (fun s0 : Sv => .slice s0.A (pointB tx n ht).length s0.c) (fun s0 : Sv => rw_ 5 RB s0 (pointB tx n ht).length (pointB tx n ht) :: L) (fun s0 : Sv => (pointB tx n ht).length = 38) :=
  ctr' (M' := (fun s0 : Sv => [rw_ 5 RB s0 (pointB tx n ht).length (pointB tx n ht)])) (by kernel_rfl) (fun hp w hw => by exact coin_PutPoint _ _ _ w hp) (by rintro hp ⟨s0, n0, x0⟩ rfl ok; cases ok.row; exact ⟨s0, rfl, rfl, pointB_len htx.h hp⟩)
theorem coin_GetPoint (lA : Option Addr) (lc : Nat) (l : List UInt8) (i : Int) (w0 : World) (hl : Slr w0 RB (.slice lA l.length lc) l) (hp : l.length ≤ 140737488351232) :
    Ct Tryd.prog 94 [.slice lA l.length lc, .int .i64 i] w0 no (fun ((e0, e1, e2, e3, e4) : List UInt8 × Int × Int × Int × Int) => .tuple #[Ag [.blk 32 (RB.all e0), .one (.int .u16 e1), .one (.int .u32 e2)], .int .i64 e3, .int .i64 e4]) (fun (e0, e1, e2, e3, e4) => []) (fun (e0, e1, e2, e3, e4) => e0 = (ptH l i).l ∧ e1 = ptN l i ∧ e2 = ptT l i ∧ e3 = ptX l i ∧ e4 = ptE l i) := by
  have hst := St.start w0
  have i_l := Rw.old hl
  refine genter _ hst Tryd.func94 rfl rfl rfl rfl ?_
  have h2 := getN_2 (partL l i 38) 32
  have h4 := getN_4 (partL l i 38) 34
  by_cases hh : partE l i 38 = 0
  · have h5 := partL_len hh
    have h6 := partE_ok hh
    repeat' (first
     | (refine z1 ?_; intros)
     | (refine z2 ?_ ?_ <;> first | exact zi | intro h | skip)
     | (refine kR ?_; refine zr (_, _, _, _, _) ?_)
     | (refine kO ?_; refine zc ?_ ?_ <;> intros))
    all_goals simp [ptH, ptN, ptT, ptX, ptE, hh, List.take_take]
  · skip
    repeat' (first
     | (refine z1 ?_; intros)
     | (refine z2 ?_ ?_ <;> first | exact zi | intro h | skip)
     | (refine kR ?_; refine zr (_, _, _, _, _) ?_)
     | (refine kO ?_; refine zc ?_ ?_ <;> intros))
    all_goals (unfold ptH ptN ptT ptX ptE; grind [zH])
instance c_coin_GetPoint {lA : Option Addr} {lc ln : Nat} {l : List UInt8} {i : Int} {w0 : World} {X : Nat → Prop} {L : List Assn} [hl : Rw w0 X L (.slice lA ln lc) RB l] : Ctr Tryd.prog 94 [.slice lA ln lc, .int .i64 i] w0 X L (l.length ≤ 140737488351232) (fun _ : Unit => .tuple #[Ag [.blk 32 (RB.all (ptH l i).l), .one (.int .u16 (ptN l i)), .one (.int .u32 (ptT l i))], .int .i64 (ptX l i), .int .i64 (ptE l i)]) (fun _ : Unit => L) (fun _ : Unit => (0 ≤ ptN l i ∧ ptN l i ≤ 65535 ∧ 0 ≤ ptT l i ∧ ptT l i ≤ 4294967295) ∧ (ptE l i = 0 → ptX l i = i + 38 ∧ 0 ≤ i ∧ i + 38 ≤ l.length)) :=
  ctr' (M' := (fun _ : Unit => [])) (by kernel_rfl) (fun hp w hw => by have el := hl.len hw; subst el; exact coin_GetPoint _ _ _ _ w (hl.get w hw) hp) (by rintro hp ⟨e0, e1, e2, e3, e4⟩ ⟨rfl, rfl, rfl, rfl, rfl⟩ ok; exact ⟨(), rfl, rfl, ⟨pt_b l i, pt_ok⟩⟩)
theorem coin_may (v : Int) (lockA : Option Addr) (lockc : Nat) (lock : List UInt8) (w0 : World) (hlock : Slr w0 RB (.slice lockA lock.length lockc) lock)  :
    Ct Tryd.prog 102 [.int .u64 v, .slice lockA lock.length lockc] w0 no (fun ((e0) : Bool) => .bool e0) (fun (e0) => []) (fun (e0) => e0 = decide (mayO v lock)) := by
  have hst := St.start w0
  have i_lock := Rw.old hlock
  refine genter _ hst Tryd.func102 rfl rfl rfl rfl ?_
  repeat' (first
   | (refine z1 ?_; intros)
   | (refine z2 ?_ ?_ <;> first | exact zi | intro h | skip)
   | (refine kR ?_; refine zr (_) ?_)
   | (refine kO ?_; refine zc ?_ ?_ <;> intros))
  all_goals grind
instance c_coin_may {v : Int} {lockA : Option Addr} {lockc lockn : Nat} {lock : List UInt8} {w0 : World} {X : Nat → Prop} {L : List Assn} [hlock : Rw w0 X L (.slice lockA lockn lockc) RB lock] : Ctr Tryd.prog 102 [.int .u64 v, .slice lockA lockn lockc] w0 X L (True) (fun _ : Unit => .bool (decide (mayO v lock))) (fun _ : Unit => L) (fun _ : Unit => True) :=
  ctr' (M' := (fun _ : Unit => [])) (by kernel_rfl) (fun hp w hw => by have elock := hlock.len hw; subst elock; exact coin_may _ _ _ _ w (hlock.get w hw)) (by rintro hp e0 rfl ok; exact ⟨(), rfl, rfl, trivial⟩)
theorem coin_PutOut (v : Int) (lockA : Option Addr) (lockc : Nat) (lock : List UInt8) (w0 : World) (hlock : Slr w0 RB (.slice lockA lock.length lockc) lock) (hp : 0 ≤ v ∧ v ≤ 18446744073709551615) :
    Ct Tryd.prog 88 [Ag [.one (.int .u64 v), .one (.slice lockA lock.length lockc)]] w0 no (fun ((⟨s0, n0, x0⟩, e1) : Br UInt8 × Int) => .tuple #[.slice s0.A n0 s0.c, .int .i64 e1]) (fun (⟨s0, n0, x0⟩, e1) => [rw_ 5 RB s0 n0 x0]) (fun (⟨s0, n0, x0⟩, e1) => x0 = (outL v lock) ∧ e1 = outE v lock) := by
  have hst := St.start w0
  have i_lock := Rw.old hlock
  refine genter _ hst Tryd.func88 rfl rfl rfl rfl ?_
  repeat' (first
   | refine gdraw (id := 3) [0,1,3,4,2,5,6,7,8] (by kernel_rfl) (by kernel_rfl) rfl ?_
   | (refine z1 ?_; intros)
   | (refine z2 ?_ ?_ <;> first | exact zi | intro h | skip)
   | (refine kR ?_; refine zr (⟨⟨_, _⟩, _, _⟩, _) ?_)
   | (refine kO ?_; refine zc ?_ ?_ <;> intros))
  all_goals grind [outL, outE]
instance c_coin_PutOut {v : Int} {lockA : Option Addr} {lockc lockn : Nat} {lock : List UInt8} {w0 : World} {X : Nat → Prop} {L : List Assn} [hlock : Rw w0 X L (.slice lockA lockn lockc) RB lock] : Ctr Tryd.prog 88 [Ag [.one (.int .u64 v), .one (.slice lockA lockn lockc)]] w0 X L (0 ≤ v ∧ v ≤ 18446744073709551615) (fun s0 : Sv => .tuple #[.slice s0.A (outL v lock).length s0.c, .int .i64 (outE v lock)]) (fun s0 : Sv => rw_ 5 RB s0 (outL v lock).length (outL v lock) :: L) (fun s0 : Sv => (outL v lock).length ≤ 117) :=
  ctr' (M' := (fun s0 : Sv => [rw_ 5 RB s0 (outL v lock).length (outL v lock)])) (by kernel_rfl) (fun hp w hw => by have elock := hlock.len hw; subst elock; exact coin_PutOut _ _ _ _ w (hlock.get w hw) hp) (by rintro hp ⟨⟨s0, n0, x0⟩, e1⟩ ⟨rfl, rfl⟩ ok; cases ok.row; exact ⟨s0, rfl, rfl, outL_len _ _ hp⟩)
theorem coin_value (lA : Option Addr) (lc : Nat) (l : List UInt8) (i : Int) (w0 : World) (hl : Slr w0 RB (.slice lA l.length lc) l) (hp : l.length ≤ 140737488351232) :
    Ct Tryd.prog 109 [.slice lA l.length lc, .int .i64 i] w0 no (fun ((e0, e1) : Int × Int) => .tuple #[.int .u64 e0, .int .i64 e1]) (fun (e0, e1) => []) (fun (e0, e1) => e0 = getN l i 8 ∧ e1 = valE l i) := by
  have hst := St.start w0
  have i_l := Rw.old hl
  refine genter _ hst Tryd.func109 rfl rfl rfl rfl ?_
  repeat' (first
   | (refine z1 ?_; intros)
   | (refine z2 ?_ ?_ <;> first | exact zi | intro h | skip)
   | (refine kR ?_; refine zr (_, _) ?_)
   | (refine kO ?_; refine zc ?_ ?_ <;> intros))
  all_goals grind [valE]
instance c_coin_value {lA : Option Addr} {lc ln : Nat} {l : List UInt8} {i : Int} {w0 : World} {X : Nat → Prop} {L : List Assn} [hl : Rw w0 X L (.slice lA ln lc) RB l] : Ctr Tryd.prog 109 [.slice lA ln lc, .int .i64 i] w0 X L (l.length ≤ 140737488351232) (fun _ : Unit => .tuple #[.int .u64 (getN l i 8), .int .i64 (valE l i)]) (fun _ : Unit => L) (fun _ : Unit => (0 ≤ getN l i 8 ∧ getN l i 8 ≤ 18446744073709551615) ∧ (valE l i = 0 → 0 ≤ i ∧ i + 8 ≤ l.length)) :=
  ctr' (M' := (fun _ : Unit => [])) (by kernel_rfl) (fun hp w hw => by have el := hl.len hw; subst el; exact coin_value _ _ _ _ w (hl.get w hw) hp) (by rintro hp ⟨e0, e1⟩ ⟨rfl, rfl⟩ ok; exact ⟨(), rfl, rfl, ⟨getN_b _ _ _, valE_ok⟩⟩)
theorem coin_GetOut (lA : Option Addr) (lc : Nat) (l : List UInt8) (i : Int) (w0 : World) (hl : Slr w0 RB (.slice lA l.length lc) l) (hp : l.length ≤ 140737488351232) :
    Ct Tryd.prog 96 [.slice lA l.length lc, .int .i64 i] w0 no (fun ((e0, ⟨s1, n1, x1⟩, e2, e3) : Int × Br UInt8 × Int × Int) => .tuple #[Ag [.one (.int .u64 e0), .one (.slice s1.A n1 s1.c)], .int .i64 e2, .int .i64 e3]) (fun (e0, ⟨s1, n1, x1⟩, e2, e3) => [rw_ 5 RB s1 n1 x1]) (fun (e0, ⟨s1, n1, x1⟩, e2, e3) => e0 = goV l i ∧ x1 = (goL l i) ∧ e2 = goX l i ∧ e3 = goE l i) := by
  have hst := St.start w0
  have i_l := Rw.old hl
  refine genter _ hst Tryd.func96 rfl rfl rfl rfl ?_
  repeat' (first
   | (refine z1 ?_; intros)
   | (refine z2 ?_ ?_ <;> first | exact zi | intro h | skip)
   | (refine kR ?_; refine zr (_, ⟨⟨_, _⟩, _, _⟩, _, _) ?_)
   | (refine kO ?_; refine zc ?_ ?_ <;> intros))
  all_goals (unfold goV goL goX; grind [goE])
instance c_coin_GetOut {lA : Option Addr} {lc ln : Nat} {l : List UInt8} {i : Int} {w0 : World} {X : Nat → Prop} {L : List Assn} [hl : Rw w0 X L (.slice lA ln lc) RB l] : Ctr Tryd.prog 96 [.slice lA ln lc, .int .i64 i] w0 X L (l.length ≤ 140737488351232) (fun s1 : Sv => .tuple #[Ag [.one (.int .u64 (goV l i)), .one (.slice s1.A (goL l i).length s1.c)], .int .i64 (goX l i), .int .i64 (goE l i)]) (fun s1 : Sv => rw_ 5 RB s1 (goL l i).length (goL l i) :: L) (fun s1 : Sv => (0 ≤ goV l i ∧ goV l i ≤ 1125899906842624) ∧ (goL l i).length ≤ 100 ∧ (goE l i = 0 → 0 ≤ i ∧ i + 9 ≤ goX l i ∧ goX l i ≤ l.length)) :=
  ctr' (M' := (fun s1 : Sv => [rw_ 5 RB s1 (goL l i).length (goL l i)])) (by kernel_rfl) (fun hp w hw => by have el := hl.len hw; subst el; exact coin_GetOut _ _ _ _ w (hl.get w hw) hp) (by rintro hp ⟨e0, ⟨s1, n1, x1⟩, e2, e3⟩ ⟨rfl, rfl, rfl, rfl⟩ ok; cases ok.row; exact ⟨s1, rfl, rfl, go_ok l i⟩)
end Go.Proofs.YtalainpmlonahaaDoor
