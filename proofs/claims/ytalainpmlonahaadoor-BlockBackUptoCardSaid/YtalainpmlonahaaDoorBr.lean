/-
  moneyerref08.Get, moneyerref10.Get, Read, Same.
-/
import Derived.Test.YtalainpmlonahaaDoorBe
set_option linter.all false
set_option maxRecDepth 100000
set_option maxHeartbeats 4000000
namespace Go.Proofs.YtalainpmlonahaaDoor
open Go.RowKit

def fillH (p : List UInt8) (i : Nat) : List UInt8 := p.take i ++ List.replicate (32 - i) 0
theorem fillH_len {p : List UInt8} {i : Nat} (hi : i ≤ 32) (hp : 32 ≤ p.length) : (fillH p i).length = 32 := by simp [fillH]; omega
theorem fillH_step {p : List UInt8} {i : Nat} (hi : i < 32) (hp : 32 ≤ p.length) : (fillH p i).set i (ixd p (i : Int)) = fillH p (i + 1) := by
  have e : ixd p (i : Int) = p[i]'(by omega) := by rw [ixd_eq (by simp; omega)]; simp
  have e2 : List.replicate (32 - i) (0 : UInt8) = 0 :: List.replicate (32 - (i + 1)) 0 := by
    rw [show 32 - i = (32 - (i + 1)) + 1 by omega, List.replicate_succ]
  have e3 : p.take (i + 1) = p.take i ++ [p[i]'(by omega)] := List.take_succ_eq_append_getElem (by omega)
  have e4 : i - (p.take i).length = 0 := by simp; omega
  unfold fillH
  rw [e, e2, e3, List.set_append_right _ _ (by simp; omega), e4, List.set_cons_zero, List.append_assoc]; rfl
theorem fillH_all {p : List UInt8} (hp : 32 ≤ p.length) : fillH p 32 = (toH (p.take 32)).l := by
  have h1 : 32 ≤ (p.take 32).length := by simp; omega
  show p.take 32 ++ List.replicate (32 - 32) 0 = (p.take 32 ++ List.replicate 32 0).take 32
  rw [List.take_append_of_le_length h1, Nat.sub_self, List.replicate_zero, List.append_nil, List.take_take, Nat.min_self]
theorem ixd_drop {p : List UInt8} {i k : Nat} (h : i + k < p.length) : ixd p ((k : Int) + (i : Int)) = ixd (p.drop k) (i : Int) := by
  rw [ixd_eq (by omega), ixd_eq (by simp; omega), List.getElem_drop]
  congr 1
theorem ref08_Get (lA : Option Addr) (lc : Nat) (l : List UInt8) (i : Int) (w0 : World) (hl : Slr w0 RB (.slice lA l.length lc) l) (hp : l.length ≤ 140737488351232) :
    Ct Tryd.prog 25 [.slice lA l.length lc, .int .i64 i] w0 no (fun ((e0, e1, e2, e3, e4, e5, e6) : List UInt8 × List UInt8 × Int × Int × Int × Int × Int) => .tuple #[Ag [.blk 32 (RB.all e0), .blk 32 (RB.all e1), .one (.int .u32 e2), .one (.int .u32 e3), .one (.int .u32 e4)], .int .i64 e5, .int .i64 e6]) (fun (e0, e1, e2, e3, e4, e5, e6) => []) (fun (e0, e1, e2, e3, e4, e5, e6) => e0 = ((hdV l i).prev).l ∧ e1 = ((hdV l i).root).l ∧ e2 = (hdV l i).tm ∧ e3 = (hdV l i).bits ∧ e4 = (hdV l i).nonce ∧ e5 = hdX l i ∧ e6 = hdE l i) := by
  have hst := St.start w0
  have i_l := Rw.old hl
  refine genter _ hst Tryd.func25 rfl rfl rfl rfl ?_
  by_cases hh : partE l i 76 = 0
  · have h5 := partL_len hh
    have h6 := partE_ok hh
    have e0 : hdV l i = hdG (partL l i 76) := if_pos hh
    have e1 : hdX l i = i + 76 := if_pos hh
    have e2 : hdE l i = 0 := hh
    have y1 := getN_4 (partL l i 76) 64
    have y2 := getN_4 (partL l i 76) 68
    have y3 := getN_4 (partL l i 76) 72
    rw [e0, e1, e2]
    repeat' (first
     | (refine z1 ?_; intros)
     | (refine z2 ?_ ?_ <;> first | exact zi | intro h | skip)
     | (refine kR ?_; refine zr (_, _, _, _, _, _, _) ?_)
     | (refine kO ?_; refine zc ?_ ?_ <;> intros))
    rename_i g4 s _ g9
    have hp1 : 32 ≤ (partL l i 76).length := by omega
    have hp2 : 32 ≤ ((partL l i 76).drop 32).length := by simp; omega
    refine gloop [1, 4, 7, 9] (fun (j : Nat) K => (10, .int .i64 j) :: K) (fun j => [boxA g9 33 [.blk 32 (RB.all (fillH (partL l i 76) j)), .blk 32 (RB.all (fillH ((partL l i 76).drop 32) j)), .one (.int .u32 0), .one (.int .u32 0), .one (.int .u32 0)], rw_ 5 RB s (partL l i 76).length (partL l i 76), boxA g4 33 [.blk 32 (RB.all (List.replicate 32 0)), .blk 32 (RB.all (List.replicate 32 0)), .one (.int .u32 0), .one (.int .u32 0), .one (.int .u32 0)]]) (fun j => j ≤ 32) (fun j => 32 - j) 0 rfl (by repeat (first | exact trivial | refine ⟨rfl, ?_⟩)) (by show Ent _ [boxA g9 33 [.blk 32 (RB.all (List.replicate 32 0)), .blk 32 (RB.all (List.replicate 32 0)), .one (.int .u32 0), .one (.int .u32 0), .one (.int .u32 0)], _, _]; exact eb (er (eb Ent.nil))) (by omega) (fun j hj => ?_)
    have i1 : LenIs (fillH (partL l i 76) j) 32 := ⟨fillH_len hj hp1⟩
    have i2 : LenIs (fillH ((partL l i 76).drop 32) j) 32 := ⟨fillH_len hj hp2⟩
    by_cases hlt : j < 32
    · have s1 := fillH_step hlt hp1
      have s2 := fillH_step hlt hp2
      rw [← ixd_drop (i := j) (k := 32) (by omega)] at s2
      have s3 : (fillH ((partL l i 76).drop 32) j).set j (ixd (partL l i 76) (32 + (j : Int))) = fillH ((partL l i 76).drop 32) (j + 1) := s2
      repeat' (first
       | (refine z1 ?_; intros)
       | (refine z2 ?_ ?_ <;> first | exact zi | intro h | skip)
       | (refine kR ?_; refine zr (_, _, _, _, _, _, _) ?_)
       | (refine kO ?_; refine zc ?_ ?_ <;> intros))
      refine gnl (j + 1) (by repeat (first | exact trivial | refine ⟨rfl, ?_⟩)) ?_ (by omega) (by omega)
      simp only [Int.toNat_natCast, s1, s3]
      exact eb (er (eb Ent.nil))
    · obtain rfl : j = 32 := by omega
      repeat' (first
       | (refine z1 ?_; intros)
       | (refine z2 ?_ ?_ <;> first | exact zi | intro h | skip)
       | (refine kR ?_; refine zr (_, _, _, _, _, _, _) ?_)
       | (refine kO ?_; refine zc ?_ ?_ <;> intros))
      exact ⟨fillH_all hp1, fillH_all hp2, rfl, rfl, rfl, rfl, rfl⟩
  · skip
    repeat' (first
     | (refine z1 ?_; intros)
     | (refine z2 ?_ ?_ <;> first | exact zi | intro h | skip)
     | (refine kR ?_; refine zr (_, _, _, _, _, _, _) ?_)
     | (refine kO ?_; refine zc ?_ ?_ <;> intros))
    all_goals (unfold hdV hdX hdE; simp only [if_neg hh]; exact ⟨rfl, rfl, rfl, rfl, rfl, trivial, trivial⟩)
instance c_ref08_Get {lA : Option Addr} {lc ln : Nat} {l : List UInt8} {i : Int} {w0 : World} {X : Nat → Prop} {L : List Assn} [hl : Rw w0 X L (.slice lA ln lc) RB l] : Ctr Tryd.prog 25 [.slice lA ln lc, .int .i64 i] w0 X L (l.length ≤ 140737488351232) (fun _ : Unit => .tuple #[Ag [.blk 32 (RB.all ((hdV l i).prev).l), .blk 32 (RB.all ((hdV l i).root).l), .one (.int .u32 ((hdV l i).tm)), .one (.int .u32 ((hdV l i).bits)), .one (.int .u32 ((hdV l i).nonce))], .int .i64 (hdX l i), .int .i64 (hdE l i)]) (fun _ : Unit => L) (fun _ : Unit => HdN (hdV l i).tm (hdV l i).bits (hdV l i).nonce ∧ (hdE l i = 0 → hdX l i = i + 76 ∧ 0 ≤ i ∧ i + 76 ≤ l.length)) :=
  ctr' (M' := (fun _ : Unit => [])) (by kernel_rfl) (fun hp w hw => by have el := hl.len hw; subst el; exact ref08_Get _ _ _ _ w (hl.get w hw) hp) (by rintro hp ⟨e0, e1, e2, e3, e4, e5, e6⟩ ⟨rfl, rfl, rfl, rfl, rfl, rfl, rfl⟩ ok; exact ⟨(), rfl, rfl, ⟨hdV_n l i, hdE_ok⟩⟩)
theorem bgz {l : List UInt8} {i e : Int} (h : bgE l i = e) (h0 : e ≠ 0) : bgH l i = zHd ∧ bgX l i = 0 ∧ bgT l i = [] ∧ bgE l i = e := by
  have hb : ¬ bgE l i = 0 := by omega
  exact ⟨if_neg hb, if_neg hb, if_neg hb, h⟩
theorem ref10_Get (lA : Option Addr) (lc : Nat) (l : List UInt8) (i : Int) (w0 : World) (hl : Slr w0 RB (.slice lA l.length lc) l) (hp : l.length ≤ 140737488351232) :
    Ct Tryd.prog 10 [.slice lA l.length lc, .int .i64 i] w0 no (fun r : TxsM => .tuple #[Ag (bkC (bgH l i) r.s r.gs.length), .int .i64 (bgX l i), .int .i64 (bgE l i)])
      (fun r => [rw_ 57 RTx r.s r.gs.length r.gs, lot (r.gs.flatMap txRow)]) (fun r => r.gs.map txK = bgT l i) := by
  have hst := St.start w0
  have i_l := Rw.old hl
  have n0 : TxsN [] := nofun
  refine genter _ hst Tryd.func10 rfl rfl rfl rfl ?_
  repeat' (first
   | (refine z1 ?_; intros)
   | (refine z2 ?_ ?_ <;> first | exact zi | intro h | skip)
   | (refine kO ?_; refine zc ?_ ?_ <;> intros))
  · obtain ⟨b1, b2, b3, b4⟩ := bgz (l := l) (i := i) (if_pos h) h
    rw [b1, b2, b3, b4]
    exact zr ⟨⟨none, 0⟩, [], n0⟩ rfl (hL := er0 (elot0 Ent.nil))
  · obtain ⟨b1, b2, b3, b4⟩ := bgz (bgE1 (by assumption) h) h
    rw [b1, b2, b3, b4]
    exact zr ⟨⟨none, 0⟩, [], n0⟩ rfl (hL := er0 (elot0 Ent.nil))
  · obtain ⟨b1, b2, b3, b4⟩ := bgz (bgE2 (by assumption) (by assumption) h) (by decide)
    rw [b1, b2, b3, b4]
    exact zr ⟨⟨none, 0⟩, [], n0⟩ rfl (hL := er0 (elot0 Ent.nil))
  · obtain ⟨b1, b2, b3, b4⟩ := bgz (bgE3 (by assumption) (by assumption) (by assumption) h) (by decide)
    rw [b1, b2, b3, b4]
    exact zr ⟨⟨none, 0⟩, [], n0⟩ rfl (hL := er0 (elot0 Ent.nil))
  · rename hdE l i = 0 => e0
    rename countE l (hdX l i) = 0 => e1
    rename ¬ countN l (hdX l i) = 0 => e2
    rename ¬ 16 < countN l (hdX l i) => e3
    obtain ⟨x1, x2, x3⟩ := hdE_ok e0
    have hcb := countE_ok e1
    have hcn := countN_b l (hdX l i)
    obtain ⟨n, hnn⟩ := Int.eq_ofNat_of_zero_le hcn.1
    have eT : bT l i = gT l (countX l (hdX l i)) n := by unfold bT; rw [← x1, hnn]; rfl
    rename_i g4 _ _ gh _ _ _ gb
    refine gloop3 [0, 1, 4, 10, 13] (fun (k : Nat) (s : Sv) (gs : List TxG) K => (8, .int .i64 (gT l (countX l (hdX l i)) k).next) :: (14, .int .u64 k) :: K) (fun k s gs => [rw_ 57 RTx s gs.length gs, lot (gs.flatMap txRow), boxA gb 36 [.blk 32 (RB.all (hdV l i).prev.l), .blk 32 (RB.all (hdV l i).root.l), .one (.int .u32 (hdV l i).tm), .one (.int .u32 (hdV l i).bits), .one (.int .u32 (hdV l i).nonce), .one (.slice s.A gs.length s.c)], boxA g4 36 [.blk 32 (RB.all (List.replicate 32 0)), .blk 32 (RB.all (List.replicate 32 0)), .one (.int .u32 0), .one (.int .u32 0), .one (.int .u32 0), .one (.slice none 0 0)]]) (fun k s gs => k ≤ n ∧ (gT l (countX l (hdX l i)) k).e = 0 ∧ gs.map txK = (gT l (countX l (hdX l i)) k).xs ∧ TxsN gs ∧ gs.length = k) (fun k s gs => n - k) 0 ⟨none, 0⟩ [] rfl (by repeat (first | exact trivial | refine ⟨rfl, ?_⟩)) (er0 (elot0 (eb (eb Ent.nil)))) ⟨by omega, rfl, rfl, nofun, rfl⟩ (fun k s gs hk => ?_)
    obtain ⟨k1, k2, k3, k4, k5⟩ := hk
    have hb := gT_b (l := l) (i := countX l (hdX l i)) (by omega) k k2
    by_cases hlt : k < n
    · skip
      repeat' (first
       | refine gbs RTx rfl rfl rfl rfl rfl rfl (fun _ => ?_) (fun _ => ?_)
       | (refine z1 ?_; intros)
       | (refine z2 ?_ ?_ <;> first | exact zi | intro h | skip)
       | (refine kO ?_; refine zc ?_ ?_ <;> intros)
       | (refine kD ?_; exact dz))
      · obtain ⟨b1, b2, b3, b4⟩ := bgz (l := l) (i := i) (e := tgE l (gT l (countX l (hdX l i)) k).next) (by rw [bgE4 e0 e1 e2 e3, eT, gT_e1 hlt k2 h, if_pos h]) h
        rw [b1, b2, b3, b4]
        exact zr ⟨⟨none, 0⟩, [], n0⟩ rfl (hL := er0 (elot0 Ent.nil))
      · rename_i r hr _ _ _ _ s'
        obtain ⟨f1, f2, f3, f4⟩ := hr
        have hk := gT_ok k2 h
        refine gnl3 (k + 1) s' (gs ++ [(⟨r.si, r.gi, r.so, r.go, tgA l (gT l (countX l (hdX l i)) k).next⟩ : TxG)]) (by simp only [hk, List.length_append, List.length_cons, List.length_nil]; exact (by repeat (first | exact trivial | refine ⟨rfl, ?_⟩))) ?_ ⟨hlt, by rw [hk], by rw [hk]; simp [k3, txK, f1, f2], TxsN_snoc k4 ⟨(tx_forth h).1, f3, f4⟩, by simp [k5]⟩ (by omega)
        simp only [List.length_append, List.length_cons, List.length_nil, List.flatMap_append, List.flatMap_cons, List.flatMap_nil, List.append_nil]
        exact er (elotT (g := ⟨r.si, r.gi, r.so, r.go, tgA l (gT l (countX l (hdX l i)) k).next⟩) (eb (eb Ent.nil)))
    · obtain rfl : k = n := by omega
      rw [← eT] at k2 k3 hb ⊢
      repeat' (first
       | (refine z1 ?_; intros)
       | (refine z2 ?_ ?_ <;> first | exact zi | intro h | skip)
       | (refine kO ?_; refine zc ?_ ?_ <;> intros))
      · obtain ⟨b1, b2, b3, b4⟩ := bgz (l := l) (i := i) (e := 3) (by rw [bgE4 e0 e1 e2 e3, if_neg (by simpa using k2), if_pos h]) (by decide)
        rw [b1, b2, b3, b4]
        exact zr ⟨⟨none, 0⟩, [], n0⟩ rfl (hL := er0 (elot0 Ent.nil))
      · have z : bgE l i = 0 := by rw [bgE4 e0 e1 e2 e3, if_neg (by simpa using k2), if_neg h]
        rw [show bgH l i = hdV l i from if_pos z, show bgX l i = (bT l i).next from if_pos z, show bgT l i = (bT l i).xs from if_pos z, z]
        exact zr ⟨s, gs, k4⟩ k3
instance c_ref10_Get {lA : Option Addr} {lc ln : Nat} {l : List UInt8} {i : Int} {w0 : World} {X : Nat → Prop} {L : List Assn} [hl : Rw w0 X L (.slice lA ln lc) RB l] :
    Ctr Tryd.prog 10 [.slice lA ln lc, .int .i64 i] w0 X L (l.length ≤ 140737488351232) (fun r : TxsM => .tuple #[Ag [.blk 32 (RB.all (bgH l i).prev.l), .blk 32 (RB.all (bgH l i).root.l), .one (.int .u32 (bgH l i).tm), .one (.int .u32 (bgH l i).bits), .one (.int .u32 (bgH l i).nonce), .one (.slice r.s.A r.gs.length r.s.c)], .int .i64 (bgX l i), .int .i64 (bgE l i)])
      (fun r => rw_ 57 RTx r.s r.gs.length r.gs :: lot (r.gs.flatMap txRow) :: L) (fun r => r.gs.map txK = bgT l i) :=
  ctr' (M' := fun r : TxsM => [rw_ 57 RTx r.s r.gs.length r.gs, lot (r.gs.flatMap txRow)]) (by kernel_rfl) (fun hp w hw => by have el := hl.len hw; subst el; exact ref10_Get _ _ _ _ w (hl.get w hw) hp) (by rintro hp r hk ok; exact ⟨r, rfl, rfl, hk⟩)
theorem ref10_Read (lA : Option Addr) (lc : Nat) (l : List UInt8) (w0 : World) (hl : Slr w0 RB (.slice lA l.length lc) l) (hp : l.length ≤ 140737488351232) :
    Ct Tryd.prog 12 [.slice lA l.length lc] w0 no (fun r : TxsM => .tuple #[Ag (bkC (brH l) r.s r.gs.length), .int .i64 (brE l)])
      (fun r => [rw_ 57 RTx r.s r.gs.length r.gs, lot (r.gs.flatMap txRow)]) (fun r => r.gs.map txK = brT l) := by
  have hst := St.start w0
  have i_l := Rw.old hl
  have n0 : TxsN [] := nofun
  by_cases h1 : bgE l 0 = 0
  · by_cases h2 : bgX l 0 < l.length
    · have hb : brE l = 5 := by unfold brE; rw [if_neg (by simpa using h1), if_pos h2]
      have hb' : ¬ brE l = 0 := by omega
      rw [show brH l = zHd from if_neg hb', show brT l = [] from if_neg hb', hb]
      refine genter _ hst Tryd.func12 rfl rfl rfl rfl ?_
      repeat' (first
       | (refine z1 ?_; intros)
       | (refine z2 ?_ ?_ <;> first | exact zi | intro h | skip)
       | (refine kO ?_; refine zc ?_ ?_ <;> intros))
      exact zr ⟨⟨none, 0⟩, [], n0⟩ rfl (hL := er0 (elot0 Ent.nil))
    · have hb : brE l = 0 := by unfold brE; rw [if_neg (by simpa using h1), if_neg h2]
      rw [show brH l = bgH l 0 from if_pos hb, show brT l = bgT l 0 from if_pos hb, hb]
      refine genter _ hst Tryd.func12 rfl rfl rfl rfl ?_
      repeat' (first
       | (refine z1 ?_; intros)
       | (refine z2 ?_ ?_ <;> first | exact zi | intro h | skip)
       | (refine kO ?_; refine zc ?_ ?_ <;> intros))
      rename TxsM => r
      exact zr ⟨r.s, r.gs, r.h⟩ (by assumption)
  · have hb : brE l = bgE l 0 := if_pos h1
    have hb' : ¬ brE l = 0 := by omega
    rw [show brH l = zHd from if_neg hb', show brT l = [] from if_neg hb', hb]
    refine genter _ hst Tryd.func12 rfl rfl rfl rfl ?_
    repeat' (first
     | (refine z1 ?_; intros)
     | (refine z2 ?_ ?_ <;> first | exact zi | intro h | skip)
     | (refine kO ?_; refine zc ?_ ?_ <;> intros))
    exact zr ⟨⟨none, 0⟩, [], n0⟩ rfl (hL := er0 (elot0 Ent.nil))
instance c_ref10_Read {lA : Option Addr} {lc ln : Nat} {l : List UInt8} {w0 : World} {X : Nat → Prop} {L : List Assn} [hl : Rw w0 X L (.slice lA ln lc) RB l] :
    Ctr Tryd.prog 12 [.slice lA ln lc] w0 X L (l.length ≤ 140737488351232) (fun r : TxsM => .tuple #[Ag [.blk 32 (RB.all (brH l).prev.l), .blk 32 (RB.all (brH l).root.l), .one (.int .u32 (brH l).tm), .one (.int .u32 (brH l).bits), .one (.int .u32 (brH l).nonce), .one (.slice r.s.A r.gs.length r.s.c)], .int .i64 (brE l)])
      (fun r => rw_ 57 RTx r.s r.gs.length r.gs :: lot (r.gs.flatMap txRow) :: L) (fun r => r.gs.map txK = brT l) :=
  ctr' (M' := fun r : TxsM => [rw_ 57 RTx r.s r.gs.length r.gs, lot (r.gs.flatMap txRow)]) (by kernel_rfl) (fun hp w hw => by have el := hl.len hw; subst el; exact ref10_Read _ _ _ w (hl.get w hw) hp) (by rintro hp r hk ok; exact ⟨r, rfl, rfl, hk⟩)
theorem ref10_Same (p : List UInt8) [hp : LenIs p 32] (r : List UInt8) [hr : LenIs r 32] (t : Int) (b : Int) (n : Int) (tsA : Option Addr) (tsc : Nat) (ts : List TxG) (p' : List UInt8) [hp' : LenIs p' 32] (r' : List UInt8) [hr' : LenIs r' 32] (t' : Int) (b' : Int) (n' : Int) (ts'A : Option Addr) (ts'c : Nat) (ts' : List TxG) (w0 : World) (hts : Slr w0 RTx (.slice tsA ts.length tsc) ts) (q_ts : TxsP w0 ts) (hts' : Slr w0 RTx (.slice ts'A ts'.length ts'c) ts') (q_ts' : TxsP w0 ts') (hp : HdN t b n ∧ HdN t' b' n') :
    Ct Tryd.prog 13 [Ag [.blk 32 (RB.all p), .blk 32 (RB.all r), .one (.int .u32 t), .one (.int .u32 b), .one (.int .u32 n), .one (.slice tsA ts.length tsc)], Ag [.blk 32 (RB.all p'), .blk 32 (RB.all r'), .one (.int .u32 t'), .one (.int .u32 b'), .one (.int .u32 n'), .one (.slice ts'A ts'.length ts'c)]] w0 no (fun ((e0) : Bool) => .bool e0) (fun (e0) => []) (fun (e0) => e0 = decide (BkSame p r t b n ts p' r' t' b' n' ts')) := by
  have hst := St.start w0
  have i_ts := Rw.old hts
  have j_ts := TxsR.old q_ts
  have i_ts' := Rw.old hts'
  have j_ts' := TxsR.old q_ts'
  refine genter _ hst Tryd.func13 rfl rfl rfl rfl ?_
  obtain ⟨⟨x1, x2, x3⟩, ⟨y1, y2, y3⟩⟩ := hp
  have n1 := q_ts.n
  have n2 := q_ts'.n
  have hcap := hts.cap
  repeat' (first
   | refine gdraw (id := 6) [0,1,2,3,4,5,6,7,8,9,10,11] (by kernel_rfl) (by kernel_rfl) rfl ?_
   | (refine z1 ?_; intros)
   | (refine z2 ?_ ?_ <;> first | exact zi | intro h | skip)
   | (refine kR ?_; refine zr (_) ?_)
   | (refine kO ?_; refine zc ?_ ?_ <;> intros))
  · exact (decide_eq_false fun e => len_ne (f := txK) (a := ts) (b := ts') (by omega) e.2).symm
  · rename p = p' ∧ _ => hh
    rename (ts.length : Int) = ts'.length => hl2
    have hq : ∀ x : Prop, [Decidable x] → (ts.map txK = ts'.map txK ↔ x) → decide x = decide (BkSame p r t b n ts p' r' t' b' n' ts') := fun x _ hx => decide_eq_decide.2 ⟨fun e => ⟨⟨hh.1, hh.2.1, hh.2.2.1, hh.2.2.2.1, hh.2.2.2.2.1⟩, hx.2 e⟩, fun e => hx.1 e.2⟩
    refine gloopc [2, 3] (fun (i : Nat) K => (5, .int .i64 i) :: K) (fun i => i ≤ ts.length ∧ ∀ j, j < i → txK (ixd ts (j : Int)) = txK (ixd ts' (j : Int))) (fun i => ts.length - i) 0 rfl (by repeat (first | exact trivial | refine ⟨rfl, ?_⟩)) (by simp) (fun i hi => ?_)
    by_cases hlt : i < ts.length
    · obtain ⟨_, v1, _⟩ := n1.at (i := i) (by omega)
      obtain ⟨_, v2, _⟩ := n2.at (i := i) (by omega)
      repeat' (first
       | refine gdraw (id := 6) [0,1,2,3,4,5,6,7,8,9,10,11] (by kernel_rfl) (by kernel_rfl) rfl ?_
       | (refine z1 ?_; intros)
       | (refine z2 ?_ ?_ <;> first | exact zi | intro h | skip)
       | (refine kR ?_; refine zr (_) ?_)
       | (refine kO ?_; refine zc ?_ ?_ <;> intros))
      · exact hq False ⟨fun e => map_ixd_ne (f := txK) (a := ts) (b := ts') hlt (by omega) (fun e => h (txK_iff.1 e)) e, False.elim⟩
      · refine gnl (i + 1) (by repeat (first | exact trivial | refine ⟨rfl, ?_⟩)) (Ent.refl _) ⟨by omega, fun j hj => ?_⟩ (by omega)
        by_cases e : j = i
        · subst e; exact txK_iff.2 h
        · exact hi.2 j (by omega)
    · obtain rfl : i = ts.length := by omega
      repeat' (first
       | refine gdraw (id := 6) [0,1,2,3,4,5,6,7,8,9,10,11] (by kernel_rfl) (by kernel_rfl) rfl ?_
       | (refine z1 ?_; intros)
       | (refine z2 ?_ ?_ <;> first | exact zi | intro h | skip)
       | (refine kR ?_; refine zr (_) ?_)
       | (refine kO ?_; refine zc ?_ ?_ <;> intros))
      exact hq True ⟨fun _ => trivial, fun _ => map_ixd (f := txK) (a := ts) (b := ts') (by omega) fun j hj => hi.2 j hj⟩
  · rename ¬ (p = p' ∧ _) => hh
    exact (decide_eq_false fun e => hh ⟨e.1.1, e.1.2.1, e.1.2.2.1, e.1.2.2.2.1, e.1.2.2.2.2, trivial⟩).symm
instance c_ref10_Same {p : List UInt8} {r : List UInt8} {t : Int} {b : Int} {n : Int} {tsA : Option Addr} {tsc tsn : Nat} {ts : List TxG} {p' : List UInt8} {r' : List UInt8} {t' : Int} {b' : Int} {n' : Int} {ts'A : Option Addr} {ts'c ts'n : Nat} {ts' : List TxG} {w0 : World} {X : Nat → Prop} {L : List Assn} [hp : LenIs p 32] [hr : LenIs r 32] [hts : Rw w0 X L (.slice tsA tsn tsc) RTx ts] [q_ts : TxsR w0 X L ts] [hp' : LenIs p' 32] [hr' : LenIs r' 32] [hts' : Rw w0 X L (.slice ts'A ts'n ts'c) RTx ts'] [q_ts' : TxsR w0 X L ts'] : Ctr Tryd.prog 13 [Ag [.blk 32 (RB.all p), .blk 32 (RB.all r), .one (.int .u32 t), .one (.int .u32 b), .one (.int .u32 n), .one (.slice tsA tsn tsc)], Ag [.blk 32 (RB.all p'), .blk 32 (RB.all r'), .one (.int .u32 t'), .one (.int .u32 b'), .one (.int .u32 n'), .one (.slice ts'A ts'n ts'c)]] w0 X L (HdN t b n ∧ HdN t' b' n') (fun _ : Unit => .bool (decide (BkSame p r t b n ts p' r' t' b' n' ts'))) (fun _ : Unit => L) (fun _ : Unit => True) :=
  ctr' (M' := (fun _ : Unit => [])) (by kernel_rfl) (fun hp w hw => by have ets := hts.len hw; subst ets; have ets' := hts'.len hw; subst ets'; exact ref10_Same _ _ _ _ _ _ _ _ _ _ _ _ _ _ _ _ w (hts.get w hw) (q_ts.get w hw) (hts'.get w hw) (q_ts'.get w hw) hp) (by rintro hp e0 rfl ok; exact ⟨(), rfl, rfl, trivial⟩)
end Go.Proofs.YtalainpmlonahaaDoor
