/-
  Blocks: reading.
-/
import Derived.Test.YtalainpmlonahaaDoorBh
set_option linter.all false
set_option maxRecDepth 100000
set_option maxHeartbeats 4000000
namespace Go.Proofs.YtalainpmlonahaaDoor
open Go.RowKit

theorem bgE1 {l : List UInt8} {i : Int} (h0 : hdE l i = 0) (h : countE l (hdX l i) ≠ 0) : bgE l i = countE l (hdX l i) := by
  have e := (hdE_ok h0).1
  unfold bgE; rw [← e, if_neg (by simpa using h0), if_pos h]
theorem bgE2 {l : List UInt8} {i : Int} (h0 : hdE l i = 0) (h1 : countE l (hdX l i) = 0) (h : countN l (hdX l i) = 0) : bgE l i = 5 := by
  have e := (hdE_ok h0).1
  unfold bgE; rw [← e, if_neg (by simpa using h0), if_neg (by simpa using h1), if_pos h]
theorem bgE3 {l : List UInt8} {i : Int} (h0 : hdE l i = 0) (h1 : countE l (hdX l i) = 0) (h2 : ¬ countN l (hdX l i) = 0) (h : 16 < countN l (hdX l i)) : bgE l i = 3 := by
  have e := (hdE_ok h0).1
  unfold bgE; rw [← e, if_neg (by simpa using h0), if_neg (by simpa using h1), if_neg h2, if_pos h]
theorem bgE4 {l : List UInt8} {i : Int} (h0 : hdE l i = 0) (h1 : countE l (hdX l i) = 0) (h2 : ¬ countN l (hdX l i) = 0) (h3 : ¬ 16 < countN l (hdX l i)) : bgE l i = if (bT l i).e ≠ 0 then (bT l i).e else if 20000 < (bT l i).next - i then 3 else 0 := by
  have e := (hdE_ok h0).1
  unfold bgE; rw [← e, if_neg (by simpa using h0), if_neg (by simpa using h1), if_neg h2, if_neg h3]
structure BgM where
  hd : Hd
  s : Sv
  gs : List TxG
  nx : Int
  e : Er
def BgP (l : List UInt8) (i : Int) (r : BgM) : Prop := r.e.num = bgE l i ∧ (bgE l i = 0 → r.e = .nil ∧ r.hd = hdV l i ∧ r.gs.map txK = (bT l i).xs ∧ r.nx = (bT l i).next) ∧ (bgE l i ≠ 0 → r.e ≠ .nil ∧ r.nx = 0) ∧ TxsN r.gs
theorem bgP_no {l : List UInt8} {i : Int} {r : BgM} (h : bgE l i = r.e.num) (h0 : r.e.num ≠ 0) (h2 : r.nx = 0) (h3 : TxsN r.gs) : BgP l i r :=
  ⟨h.symm, fun h4 => absurd (h.symm.trans h4) h0, fun _ => ⟨fun e => h0 (by rw [e]; rfl), h2⟩, h3⟩
@[reducible] def bkC (h : Hd) (s : Sv) (n : Nat) : List Cs := [.blk 32 (RB.all h.prev.l), .blk 32 (RB.all h.root.l), .one (.int .u32 h.tm), .one (.int .u32 h.bits), .one (.int .u32 h.nonce), .one (.slice s.A n s.c)]
theorem block_get (lA : Option Addr) (lc : Nat) (l : List UInt8) (i : Int) (w0 : World) (hl : Slr w0 RB (.slice lA l.length lc) l) (hp : l.length ≤ 140737488351232) :
    Ct Tryd.prog 23 [.slice lA l.length lc, .int .i64 i] w0 no (fun r : BgM => .tuple #[Ag (bkC r.hd r.s r.gs.length), .int .i64 r.nx, Er.val r.e])
      (fun r => [rw_ 57 RTx r.s r.gs.length r.gs, lot (r.gs.flatMap txRow)]) (fun r => BgP l i r) := by
  have hst := St.start w0
  have i_l := Rw.old hl
  have n0 : TxsN [] := nofun
  refine genter _ hst Tryd.func23 rfl rfl rfl rfl ?_
  repeat' (first
   | (refine z1 ?_; intros)
   | (refine z2 ?_ ?_ <;> first | exact zi | intro h | skip)
   | (refine kO ?_; refine zc ?_ ?_ <;> intros))
  · exact zr ⟨zHd, ⟨none, 0⟩, [], 0, .no (hdE l i)⟩ (bgP_no (if_pos h) h rfl n0) (hL := er0 (elot0 Ent.nil))
  · exact zr ⟨zHd, ⟨none, 0⟩, [], 0, .no (countE l (hdX l i))⟩ (bgP_no (bgE1 (by assumption) h) h rfl n0) (hL := er0 (elot0 Ent.nil))
  · exact zr ⟨zHd, ⟨none, 0⟩, [], 0, .no 5⟩ (bgP_no (bgE2 (by assumption) (by assumption) h) (by decide) rfl n0) (hL := er0 (elot0 Ent.nil))
  · exact zr ⟨zHd, ⟨none, 0⟩, [], 0, .no 3⟩ (bgP_no (bgE3 (by assumption) (by assumption) (by assumption) h) (by decide) rfl n0) (hL := er0 (elot0 Ent.nil))
  · rename hdE l i = 0 => e0
    rename countE l (hdX l i) = 0 => e1
    rename ¬ countN l (hdX l i) = 0 => e2
    rename_i g4 _ _ gh _ _ _
    obtain ⟨x1, x2, x3⟩ := hdE_ok e0
    have hcb := countE_ok e1
    have hcn := countN_b l (hdX l i)
    obtain ⟨n, hnn⟩ := Int.eq_ofNat_of_zero_le hcn.1
    have eT : bT l i = gT l (countX l (hdX l i)) n := by unfold bT; rw [← x1, hnn]; rfl
    refine gloop3 [0, 1, 4, 52] (fun (k : Nat) (s : Sv) (gs : List TxG) K => (5, .int .i64 (gT l (countX l (hdX l i)) k).next) :: (53, .int .i64 k) :: K) (fun k s gs => [rw_ 57 RTx s gs.length gs, lot (gs.flatMap txRow), boxA g4 36 [.blk 32 (RB.all (hdV l i).prev.l), .blk 32 (RB.all (hdV l i).root.l), .one (.int .u32 (hdV l i).tm), .one (.int .u32 (hdV l i).bits), .one (.int .u32 (hdV l i).nonce), .one (.slice s.A gs.length s.c)]]) (fun k s gs => k ≤ n ∧ (gT l (countX l (hdX l i)) k).e = 0 ∧ gs.map txK = (gT l (countX l (hdX l i)) k).xs ∧ TxsN gs ∧ gs.length = k) (fun k s gs => n - k) 0 ⟨none, 0⟩ [] rfl (by repeat (first | exact trivial | refine ⟨rfl, ?_⟩)) (er0 (elot0 (eb Ent.nil))) ⟨by omega, rfl, rfl, nofun, rfl⟩ (fun k s gs hk => ?_)
    obtain ⟨k1, k2, k3, k4, k5⟩ := hk
    have hb := gT_b (l := l) (i := countX l (hdX l i)) (by omega) k k2
    by_cases hlt : k < n
    · skip
      repeat' (first
       | refine gbs RTx rfl rfl rfl rfl rfl rfl (fun _ => ?_) (fun _ => ?_)
       | (refine z1 ?_; intros)
       | (refine z2 ?_ ?_ <;> first | exact zi | intro h | skip)
       | (refine kO ?_; refine zc ?_ ?_ <;> intros)
       | (refine kD ?_; exact dz))
      · exact zr ⟨hdV l i, s, gs, 0, .wr k (tgE l (gT l (countX l (hdX l i)) k).next)⟩ (bgP_no (by rw [bgE4 e0 e1 e2 (by assumption), eT, gT_e1 hlt k2 h, if_pos h]; rfl) h rfl k4)
      · rename_i r hr _ _ _ _ s'
        obtain ⟨f1, f2, f3, f4⟩ := hr
        have hk := gT_ok k2 h
        refine gnl3 (k + 1) s' (gs ++ [(⟨r.si, r.gi, r.so, r.go, tgA l (gT l (countX l (hdX l i)) k).next⟩ : TxG)]) (by simp only [hk, List.length_append, List.length_cons, List.length_nil]; exact (by repeat (first | exact trivial | refine ⟨rfl, ?_⟩))) ?_ ⟨hlt, by rw [hk], by rw [hk]; simp [k3, txK, f1, f2], TxsN_snoc k4 ⟨(tx_forth h).1, f3, f4⟩, by simp [k5]⟩ (by omega)
        simp only [List.length_append, List.length_cons, List.length_nil, List.flatMap_append, List.flatMap_cons, List.flatMap_nil, List.append_nil]
        exact er (elotT (g := ⟨r.si, r.gi, r.so, r.go, tgA l (gT l (countX l (hdX l i)) k).next⟩) (eb Ent.nil))
    · obtain rfl : k = n := by omega
      rw [← eT] at k2 k3 hb ⊢
      repeat' (first
       | (refine z1 ?_; intros)
       | (refine z2 ?_ ?_ <;> first | exact zi | intro h | skip)
       | (refine kO ?_; refine zc ?_ ?_ <;> intros))
      · exact zr ⟨hdV l i, s, gs, 0, .no 3⟩ (bgP_no (by rw [bgE4 e0 e1 e2 (by assumption), if_neg (by simpa using k2), if_pos h]; rfl) (show (3 : Int) ≠ 0 by decide) rfl k4)
      · have z : bgE l i = 0 := by rw [bgE4 e0 e1 e2 (by assumption), if_neg (by simpa using k2), if_neg h]
        exact zr ⟨hdV l i, s, gs, (bT l i).next, .nil⟩ ⟨z.symm, fun _ => ⟨rfl, rfl, k3, rfl⟩, fun c => absurd z c, k4⟩
instance c_block_get {lA : Option Addr} {lc ln : Nat} {l : List UInt8} {i : Int} {w0 : World} {X : Nat → Prop} {L : List Assn} [hl : Rw w0 X L (.slice lA ln lc) RB l] :
    Ctr Tryd.prog 23 [.slice lA ln lc, .int .i64 i] w0 X L (l.length ≤ 140737488351232) (fun r : BgM => .tuple #[Ag [.blk 32 (RB.all r.hd.prev.l), .blk 32 (RB.all r.hd.root.l), .one (.int .u32 r.hd.tm), .one (.int .u32 r.hd.bits), .one (.int .u32 r.hd.nonce), .one (.slice r.s.A r.gs.length r.s.c)], .int .i64 r.nx, Er.val r.e])
      (fun r => rw_ 57 RTx r.s r.gs.length r.gs :: lot (r.gs.flatMap txRow) :: L) (fun r => BgP l i r) :=
  ctr' (M' := fun r : BgM => [rw_ 57 RTx r.s r.gs.length r.gs, lot (r.gs.flatMap txRow)]) (by kernel_rfl) (fun hp w hw => by have el := hl.len hw; subst el; exact block_get _ _ _ _ w (hl.get w hw) hp) (by rintro hp r hk ok; exact ⟨r, rfl, rfl, hk⟩)
theorem block_Get (lA : Option Addr) (lc : Nat) (l : List UInt8) (i : Int) (w0 : World) (hE : EOk w0) (hl : Slr w0 RB (.slice lA l.length lc) l) (hp : l.length ≤ 140737488351232) :
    Ct Tryd.prog 9 [.slice lA l.length lc, .int .i64 i] w0 no (fun r : TxsM => .tuple #[Ag (bkC (bgH l i) r.s r.gs.length), .int .i64 (bgX l i), .int .i64 (bgE l i)])
      (fun r => [rw_ 57 RTx r.s r.gs.length r.gs, lot (r.gs.flatMap txRow)]) (fun r => r.gs.map txK = bgT l i) := by
  have hst := St.start w0
  have i_l := Rw.old hl
  have j_E := ER.old hE
  have n0 : TxsN [] := nofun
  by_cases hb : bgE l i = 0
  · rw [show bgH l i = hdV l i from if_pos hb, show bgX l i = (bT l i).next from if_pos hb, show bgT l i = (bT l i).xs from if_pos hb, hb]
    refine genter _ hst Tryd.func9 rfl rfl rfl rfl ?_
    repeat' (first
     | (refine z1 ?_; intros)
     | (refine z2 ?_ ?_ <;> first | exact zi | intro h | skip)
     | (refine kO ?_; refine zc ?_ ?_ <;> intros))
    all_goals rename BgP l i _ => hP
    all_goals obtain ⟨p1, p2, p3, p4⟩ := hP
    · exact absurd (p2 hb).1 h
    · obtain ⟨q1, q2, q3, q4⟩ := p2 hb
      rename BgM => r
      rw [q2, q4]
      exact zr ⟨r.s, r.gs, p4⟩ q3
  · rw [show bgH l i = zHd from if_neg hb, show bgX l i = 0 from if_neg hb, show bgT l i = [] from if_neg hb]
    refine genter _ hst Tryd.func9 rfl rfl rfl rfl ?_
    repeat' (first
     | (refine z1 ?_; intros)
     | (refine z2 ?_ ?_ <;> first | exact zi | intro h | skip)
     | (refine kO ?_; refine zc ?_ ?_ <;> intros))
    all_goals rename BgP l i _ => hP
    all_goals obtain ⟨p1, p2, p3, p4⟩ := hP
    · rw [p1]
      exact zr ⟨⟨none, 0⟩, [], n0⟩ rfl (hL := er0 (elot0 Ent.nil))
    · exact absurd h (p3 hb).1
instance c_block_Get {lA : Option Addr} {lc ln : Nat} {l : List UInt8} {i : Int} {w0 : World} {X : Nat → Prop} {L : List Assn} [hE : ER w0 X L] [hl : Rw w0 X L (.slice lA ln lc) RB l] :
    Ctr Tryd.prog 9 [.slice lA ln lc, .int .i64 i] w0 X L (l.length ≤ 140737488351232) (fun r : TxsM => .tuple #[Ag [.blk 32 (RB.all (bgH l i).prev.l), .blk 32 (RB.all (bgH l i).root.l), .one (.int .u32 (bgH l i).tm), .one (.int .u32 (bgH l i).bits), .one (.int .u32 (bgH l i).nonce), .one (.slice r.s.A r.gs.length r.s.c)], .int .i64 (bgX l i), .int .i64 (bgE l i)])
      (fun r => rw_ 57 RTx r.s r.gs.length r.gs :: lot (r.gs.flatMap txRow) :: L) (fun r => r.gs.map txK = bgT l i) :=
  ctr' (M' := fun r : TxsM => [rw_ 57 RTx r.s r.gs.length r.gs, lot (r.gs.flatMap txRow)]) (by kernel_rfl) (fun hp w hw => by have el := hl.len hw; subst el; exact block_Get _ _ _ _ w (hE.get w hw) (hl.get w hw) hp) (by rintro hp r hk ok; exact ⟨r, rfl, rfl, hk⟩)
theorem block_Read (lA : Option Addr) (lc : Nat) (l : List UInt8) (w0 : World) (hE : EOk w0) (hl : Slr w0 RB (.slice lA l.length lc) l) (hp : l.length ≤ 140737488351232) :
    Ct Tryd.prog 11 [.slice lA l.length lc] w0 no (fun r : TxsM => .tuple #[Ag (bkC (brH l) r.s r.gs.length), .int .i64 (brE l)])
      (fun r => [rw_ 57 RTx r.s r.gs.length r.gs, lot (r.gs.flatMap txRow)]) (fun r => r.gs.map txK = brT l) := by
  have hst := St.start w0
  have i_l := Rw.old hl
  have j_E := ER.old hE
  have n0 : TxsN [] := nofun
  by_cases h1 : bgE l 0 = 0
  · by_cases h2 : bgX l 0 < l.length
    · have hb : brE l = 5 := by unfold brE; rw [if_neg (by simpa using h1), if_pos h2]
      have hb' : ¬ brE l = 0 := by omega
      rw [show brH l = zHd from if_neg hb', show brT l = [] from if_neg hb', hb]
      refine genter _ hst Tryd.func11 rfl rfl rfl rfl ?_
      repeat' (first
       | (refine z1 ?_; intros)
       | (refine z2 ?_ ?_ <;> first | exact zi | intro h | skip)
       | (refine kO ?_; refine zc ?_ ?_ <;> intros))
      exact zr ⟨⟨none, 0⟩, [], n0⟩ rfl (hL := er0 (elot0 Ent.nil))
    · have hb : brE l = 0 := by unfold brE; rw [if_neg (by simpa using h1), if_neg h2]
      rw [show brH l = bgH l 0 from if_pos hb, show brT l = bgT l 0 from if_pos hb, hb]
      refine genter _ hst Tryd.func11 rfl rfl rfl rfl ?_
      repeat' (first
       | (refine z1 ?_; intros)
       | (refine z2 ?_ ?_ <;> first | exact zi | intro h | skip)
       | (refine kO ?_; refine zc ?_ ?_ <;> intros))
      rename TxsM => r
      exact zr ⟨r.s, r.gs, r.h⟩ (by assumption)
  · have hb : brE l = bgE l 0 := if_pos h1
    have hb' : ¬ brE l = 0 := by omega
    rw [show brH l = zHd from if_neg hb', show brT l = [] from if_neg hb', hb]
    refine genter _ hst Tryd.func11 rfl rfl rfl rfl ?_
    repeat' (first
     | (refine z1 ?_; intros)
     | (refine z2 ?_ ?_ <;> first | exact zi | intro h | skip)
     | (refine kO ?_; refine zc ?_ ?_ <;> intros))
    exact zr ⟨⟨none, 0⟩, [], n0⟩ rfl (hL := er0 (elot0 Ent.nil))
instance c_block_Read {lA : Option Addr} {lc ln : Nat} {l : List UInt8} {w0 : World} {X : Nat → Prop} {L : List Assn} [hE : ER w0 X L] [hl : Rw w0 X L (.slice lA ln lc) RB l] :
    Ctr Tryd.prog 11 [.slice lA ln lc] w0 X L (l.length ≤ 140737488351232) (fun r : TxsM => .tuple #[Ag [.blk 32 (RB.all (brH l).prev.l), .blk 32 (RB.all (brH l).root.l), .one (.int .u32 (brH l).tm), .one (.int .u32 (brH l).bits), .one (.int .u32 (brH l).nonce), .one (.slice r.s.A r.gs.length r.s.c)], .int .i64 (brE l)])
      (fun r => rw_ 57 RTx r.s r.gs.length r.gs :: lot (r.gs.flatMap txRow) :: L) (fun r => r.gs.map txK = brT l) :=
  ctr' (M' := fun r : TxsM => [rw_ 57 RTx r.s r.gs.length r.gs, lot (r.gs.flatMap txRow)]) (by kernel_rfl) (fun hp w hw => by have el := hl.len hw; subst el; exact block_Read _ _ _ w (hE.get w hw) (hl.get w hw) hp) (by rintro hp r hk ok; exact ⟨r, rfl, rfl, hk⟩)
end Go.Proofs.YtalainpmlonahaaDoor
