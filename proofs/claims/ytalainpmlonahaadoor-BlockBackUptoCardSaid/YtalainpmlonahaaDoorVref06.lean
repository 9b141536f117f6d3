/-
  moneyerref06: contracts, to the same plain functions as coin's.
-/
import Derived.Test.YtalainpmlonahaaDoorVref01
import Derived.Test.YtalainpmlonahaaDoorVcoinP
set_option linter.all false
set_option maxRecDepth 100000
set_option maxHeartbeats 4000000
namespace Go.Proofs.YtalainpmlonahaaDoor
open Go.RowKit

theorem take_ixd0 {l : List UInt8} {j : Nat} (h : j < l.length) : l.take (j + 1) = l.take j ++ [ixd l j] := by
  have := take_ixd (l := l) (i := 0) (j := j) (by omega) (by omega)
  simpa using this
theorem mix_step {a : List UInt8} {m i : Nat} (h : i < m) (hm : m ≤ a.length) : (a.take i ++ List.replicate (m - i) 0).set i (ixd a i) = a.take (i + 1) ++ List.replicate (m - (i + 1)) 0 := by
  rw [take_ixd0 (by omega), List.set_append, List.length_take, if_neg (by omega)]
  have e : m - i = (m - (i + 1)) + 1 := by omega
  rw [e, List.replicate_succ, show i - min i a.length = 0 by omega]; simp
theorem ref06_GetPoint (lA : Option Addr) (lc : Nat) (l : List UInt8) (i : Int) (w0 : World) (hl : Slr w0 RB (.slice lA l.length lc) l) (hp : l.length ≤ 140737488351232) :
    Ct Tryd.prog 50 [.slice lA l.length lc, .int .i64 i] w0 no (fun ((e0, e1, e2, e3, e4) : List UInt8 × Int × Int × Int × Int) => .tuple #[Ag [.blk 32 (RB.all e0), .one (.int .u16 e1), .one (.int .u32 e2)], .int .i64 e3, .int .i64 e4]) (fun (e0, e1, e2, e3, e4) => []) (fun (e0, e1, e2, e3, e4) => e0 = (ptH l i).l ∧ e1 = ptN l i ∧ e2 = ptT l i ∧ e3 = ptX l i ∧ e4 = ptE l i) := by
  have hst := St.start w0
  have i_l := Rw.old hl
  refine genter _ hst Tryd.func50 rfl rfl rfl rfl ?_
  have h2 := getN_2 (partL l i 38) 32
  have h4 := getN_4 (partL l i 38) 34
  by_cases hh : partE l i 38 = 0
  · have h5 := partL_len hh
    have h6 := partE_ok hh
    repeat' (first
     | (refine z1 ?_; intros)
     | (refine z2 ?_ ?_ <;> first | exact zi | intro h | skip)
     | (refine kR ?_; refine zr (_, _, _, _, _) ?_)
     | (refine kO ?_; refine zc ?_ ?_ <;> intros))
    rename_i g0 s _ g
    refine gloop [1, 4, 7, 9] (fun (j : Nat) K => (10, .int .i64 j) :: K) (fun j => [rw_ 5 RB s (partL l i 38).length (partL l i 38), boxA g 72 [.blk 32 (RB.all ((partL l i 38).take j ++ List.replicate (32 - j) 0)), .one (.int .u16 0), .one (.int .u32 0)], boxA g0 72 [.blk 32 (RB.all (List.replicate 32 0)), .one (.int .u16 0), .one (.int .u32 0)]]) (fun j => j ≤ 32) (fun j => 32 - j) 0 rfl (by repeat (first | exact trivial | refine ⟨rfl, ?_⟩)) (by simp only [List.take_zero, List.nil_append, Nat.sub_zero]; exact er (eb (eb Ent.nil))) (by omega) (fun j hj => ?_)
    have i32 : LenIs ((partL l i 38).take j ++ List.replicate (32 - j) 0) 32 := ⟨by simp; omega⟩
    repeat' (first
     | (refine z1 ?_; intros)
     | (refine z2 ?_ ?_ <;> first | exact zi | intro h | skip)
     | (refine kR ?_; refine zr (_, _, _, _, _) ?_)
     | (refine kO ?_; refine zc ?_ ?_ <;> intros))
    · refine gnl (j + 1) (by repeat (first | exact trivial | refine ⟨rfl, ?_⟩)) ?_ (by omega) (by omega)
      rw [← mix_step (by omega) (by omega)]; simp only [Int.toNat_natCast]; exact er (eb (eb Ent.nil))
    · obtain rfl : j = 32 := by omega
      have h7 : ((partL l i 38).take 32).length = 32 := by simp; omega
      simp [ptH, ptN, ptT, ptX, ptE, hh, toH_l h7]
  · skip
    repeat' (first
     | (refine z1 ?_; intros)
     | (refine z2 ?_ ?_ <;> first | exact zi | intro h | skip)
     | (refine kR ?_; refine zr (_, _, _, _, _) ?_)
     | (refine kO ?_; refine zc ?_ ?_ <;> intros))
    all_goals (unfold ptH ptN ptT ptX ptE; grind [zH])
instance c_ref06_GetPoint {lA : Option Addr} {lc ln : Nat} {l : List UInt8} {i : Int} {w0 : World} {X : Nat → Prop} {L : List Assn} [hl : Rw w0 X L (.slice lA ln lc) RB l] : Ctr Tryd.prog 50 [.slice lA ln lc, .int .i64 i] w0 X L (l.length ≤ 140737488351232) (fun _ : Unit => .tuple #[Ag [.blk 32 (RB.all (ptH l i).l), .one (.int .u16 (ptN l i)), .one (.int .u32 (ptT l i))], .int .i64 (ptX l i), .int .i64 (ptE l i)]) (fun _ : Unit => L) (fun _ : Unit => (0 ≤ ptN l i ∧ ptN l i ≤ 65535 ∧ 0 ≤ ptT l i ∧ ptT l i ≤ 4294967295) ∧ (ptE l i = 0 → ptX l i = i + 38 ∧ 0 ≤ i ∧ i + 38 ≤ l.length)) :=
  ctr' (M' := (fun _ : Unit => [])) (by kernel_rfl) (fun hp w hw => by have el := hl.len hw; subst el; exact ref06_GetPoint _ _ _ _ w (hl.get w hw) hp) (by rintro hp ⟨e0, e1, e2, e3, e4⟩ ⟨rfl, rfl, rfl, rfl, rfl⟩ ok; exact ⟨(), rfl, rfl, ⟨pt_b l i, pt_ok⟩⟩)
theorem ref06_GetOut (lA : Option Addr) (lc : Nat) (l : List UInt8) (i : Int) (w0 : World) (hl : Slr w0 RB (.slice lA l.length lc) l) (hp : l.length ≤ 140737488351232) :
    Ct Tryd.prog 52 [.slice lA l.length lc, .int .i64 i] w0 no (fun ((e0, ⟨s1, n1, x1⟩, e2, e3) : Int × Br UInt8 × Int × Int) => .tuple #[Ag [.one (.int .u64 e0), .one (.slice s1.A n1 s1.c)], .int .i64 e2, .int .i64 e3]) (fun (e0, ⟨s1, n1, x1⟩, e2, e3) => [rw_ 5 RB s1 n1 x1]) (fun (e0, ⟨s1, n1, x1⟩, e2, e3) => e0 = goV l i ∧ x1 = (goL l i) ∧ e2 = goX l i ∧ e3 = goE l i) := by
  have hst := St.start w0
  have i_l := Rw.old hl
  refine genter _ hst Tryd.func52 rfl rfl rfl rfl ?_
  have hv := valE_ok (l := l) (i := i)
  by_cases hh : getE l i 8 = 0 ∧ getN l i 8 ≤ 1125899906842624
  · have h2 : valE l i = 0 := by unfold valE; rw [if_neg (by omega)]; exact hh.1
    have h3 := hv h2
    repeat' (first
     | (refine z1 ?_; intros)
     | (refine z2 ?_ ?_ <;> first | exact zi | intro h | skip)
     | (refine kR ?_; refine zr (_, ⟨⟨_, _⟩, _, _⟩, _, _) ?_)
     | (refine kO ?_; refine zc ?_ ?_ <;> intros))
    all_goals (unfold goV goL goX; grind [goE])
  · skip
    repeat' (first
     | (refine z1 ?_; intros)
     | (refine z2 ?_ ?_ <;> first | exact zi | intro h | skip)
     | (refine kR ?_; refine zr (_, ⟨⟨_, _⟩, _, _⟩, _, _) ?_)
     | (refine kO ?_; refine zc ?_ ?_ <;> intros))
    all_goals (unfold goV goL goX; grind [goE, valE])
instance c_ref06_GetOut {lA : Option Addr} {lc ln : Nat} {l : List UInt8} {i : Int} {w0 : World} {X : Nat → Prop} {L : List Assn} [hl : Rw w0 X L (.slice lA ln lc) RB l] : Ctr Tryd.prog 52 [.slice lA ln lc, .int .i64 i] w0 X L (l.length ≤ 140737488351232) (fun s1 : Sv => .tuple #[Ag [.one (.int .u64 (goV l i)), .one (.slice s1.A (goL l i).length s1.c)], .int .i64 (goX l i), .int .i64 (goE l i)]) (fun s1 : Sv => rw_ 5 RB s1 (goL l i).length (goL l i) :: L) (fun s1 : Sv => (0 ≤ goV l i ∧ goV l i ≤ 1125899906842624) ∧ (goL l i).length ≤ 100 ∧ (goE l i = 0 → 0 ≤ i ∧ i + 9 ≤ goX l i ∧ goX l i ≤ l.length)) :=
  ctr' (M' := (fun s1 : Sv => [rw_ 5 RB s1 (goL l i).length (goL l i)])) (by kernel_rfl) (fun hp w hw => by have el := hl.len hw; subst el; exact ref06_GetOut _ _ _ _ w (hl.get w hw) hp) (by rintro hp ⟨e0, ⟨s1, n1, x1⟩, e2, e3⟩ ⟨rfl, rfl, rfl, rfl⟩ ok; cases ok.row; exact ⟨s1, rfl, rfl, go_ok l i⟩)
end Go.Proofs.YtalainpmlonahaaDoor
