/-
  Heads.
-/
import Derived.Test.YtalainpmlonahaaDoorBq
import Derived.Test.YtalainpmlonahaaDoorMc
set_option linter.all false
set_option maxRecDepth 100000
set_option maxHeartbeats 4000000
namespace Go.Proofs.YtalainpmlonahaaDoor
open Go.RowKit

instance Blk.t32 {G : Type} {R : Rep G} {gs : List G} {xs : List Value} {o m : Nat} {r : List Cs} [h : Blk r o m R gs] : Blk (.blk 32 xs :: r) (o + 32) m R gs := Blk.tl2
@[reducible] def U32 (n : Int) : Prop := 0 ≤ n ∧ n ≤ 4294967295
theorem head_low (n : Int) (w0 : World)  (hp : 0 ≤ n ∧ n ≤ 4294967295) :
    Ct Tryd.prog 61 [.int .u32 n] w0 no (fun ((⟨s0, n0, x0⟩) : Br UInt8) => .slice s0.A n0 s0.c) (fun (⟨s0, n0, x0⟩) => [rw_ 5 RB s0 n0 x0]) (fun (⟨s0, n0, x0⟩) => x0 = (putL n 4)) := by
  have hst := St.start w0
  refine genter _ hst Tryd.func61 rfl rfl rfl rfl ?_
  repeat' (first
   | (refine z1 ?_; intros)
   | (refine z2 ?_ ?_ <;> first | exact zi | intro h | skip)
   | (refine kR ?_; refine zr (⟨⟨_, _⟩, _, _⟩) ?_)
   | (refine kO ?_; refine zc ?_ ?_ <;> intros))
  all_goals rfl
instance c_head_low {n : Int} {w0 : World} {X : Nat → Prop} {L : List Assn}  : Ctr Tryd.prog 61 [.int .u32 n] w0 X L (0 ≤ n ∧ n ≤ 4294967295) (fun s0 : Sv => .slice s0.A (putL n 4).length s0.c) (fun s0 : Sv => rw_ 5 RB s0 (putL n 4).length (putL n 4) :: L) (fun s0 : Sv => (putL n 4).length = 4) :=
  ctr' (M' := (fun s0 : Sv => [rw_ 5 RB s0 (putL n 4).length (putL n 4)])) (by kernel_rfl) (fun hp w hw => by exact head_low _ w hp) (by rintro hp ⟨s0, n0, x0⟩ rfl ok; cases ok.row; exact ⟨s0, rfl, rfl, (by have := putL_len (n := n) (k := 4) ⟨hp.1, by omega⟩; omega)⟩)
def R32 : Rep Int := ⟨1, fun n => [.one (.int .u32 n)], by decide, fun _ => ⟨trivial, rfl, rfl⟩⟩
instance : SzIs R32 1 := ⟨rfl⟩
instance {n : Int} : Elm R32 (.int .u32 n) n := ⟨rfl⟩
instance : ZS Tryd.prog 116 [.one (.int .u32 0), .one (.int .u32 0), .one (.int .u32 0)] := ⟨by kernel_rfl, OkS.one.h.1⟩
instance {a b c : Int} : LenIs [a, b, c] 3 := ⟨rfl⟩
theorem low_step {l : List Int} {i : Nat} (h : i < l.length) : (l.take (i + 1)).flatMap (fun n => putL n 4) = (l.take i).flatMap (fun n => putL n 4) ++ putL (ixd l (i : Int)) 4 := flatMap_take h
theorem head_Put (prev : List UInt8) [hprev : LenIs prev 32] (root : List UInt8) [hroot : LenIs root 32] (tm : Int) (bits : Int) (nonce : Int) (w0 : World)  (hp : HdN tm bits nonce) :
    Ct Tryd.prog 35 [Ag [.blk 32 (RB.all prev), .blk 32 (RB.all root), .one (.int .u32 tm), .one (.int .u32 bits), .one (.int .u32 nonce)]] w0 no (fun ((⟨s0, n0, x0⟩) : Br UInt8) => .slice s0.A n0 s0.c) (fun (⟨s0, n0, x0⟩) => [rw_ 5 RB s0 n0 x0]) (fun (⟨s0, n0, x0⟩) => x0 = (headB prev root tm bits nonce)) := by
  have hst := St.start w0
  refine genter _ hst Tryd.func35 rfl rfl rfl rfl ?_
  have l1 := hprev.h
  have l2 := hroot.h
  obtain ⟨b1, b2, b3⟩ := hp
  repeat' (first
   | refine gdraw (id := 1) [1,2,0,3,4] (by kernel_rfl) (by kernel_rfl) rfl ?_
   | refine gbarr R32 _ rfl rfl rfl rfl inferInstance rfl rfl ?_
   | (refine z1 ?_; intros)
   | (refine z2 ?_ ?_ <;> first | exact zi | intro h | skip)
   | (refine kR ?_; refine zr (⟨⟨_, _⟩, _, _⟩) ?_)
   | (refine kO ?_; refine zc ?_ ?_ <;> intros)
   | (refine kD ?_; exact dz))
  rename_i g _ _ s0 _ _ _
  refine gloop3 [20] (fun (i : Nat) (s : Sv) (n : Nat) K => (3, .slice s.A n s.c) :: (21, .int .i64 i) :: K) (fun i s n => [rw_ 5 RB s n ([] ++ prev ++ root ++ ([tm, bits, nonce].take i).flatMap (fun n => putL n 4)), boxA g 33 [.blk 32 (RB.all prev), .blk 32 (RB.all root), .one (.int .u32 tm), .one (.int .u32 bits), .one (.int .u32 nonce)]]) (fun i s n => i ≤ 3 ∧ n = 64 + 4 * i) (fun i s n => 3 - i) 0 s0 _ rfl (by repeat (first | exact trivial | refine ⟨rfl, ?_⟩)) (by simp only [List.take_zero, List.flatMap_nil, List.append_nil]; exact er (eb Ent.nil)) (by omega) (fun i s n hi => ?_)
  by_cases hlt : i < 3
  · have hx : U32 (ixd [tm, bits, nonce] (i : Int)) := by
      rcases (show i = 0 ∨ i = 1 ∨ i = 2 by omega) with rfl | rfl | rfl
      · exact b1
      · exact b2
      · exact b3
    obtain ⟨hx1, hx2⟩ := hx
    have hs := low_step (l := [tm, bits, nonce]) (i := i) (by simpa using hlt)
    repeat' (first
     | refine gdraw (id := 1) [1,2,0,3,4] (by kernel_rfl) (by kernel_rfl) rfl ?_
     | refine gindex rfl rfl rfl rfl rfl (by omega) rfl rfl (fun _ => ?_)
     | (refine z1 ?_; intros)
     | (refine z2 ?_ ?_ <;> first | exact zi | intro h | skip)
     | (refine kR ?_; refine zr (⟨⟨_, _⟩, _, _⟩) ?_)
     | (refine kO ?_; refine zc ?_ ?_ <;> intros)
     | (refine kD ?_; exact dz))
    rename_i s'
    refine gnl3 (i + 1) s' _ (by repeat (first | exact trivial | refine ⟨rfl, ?_⟩)) ?_ (by omega) (by omega)
    rw [hs]; simp only [← List.append_assoc]; exact er (eb Ent.nil)
  · obtain rfl : i = 3 := by omega
    repeat' (first
     | refine gdraw (id := 1) [1,2,0,3,4] (by kernel_rfl) (by kernel_rfl) rfl ?_
     | (refine z1 ?_; intros)
     | (refine z2 ?_ ?_ <;> first | exact zi | intro h | skip)
     | (refine kR ?_; refine zr (⟨⟨_, _⟩, _, _⟩) ?_)
     | (refine kO ?_; refine zc ?_ ?_ <;> intros))
    simp [headB]
instance c_head_Put {prev : List UInt8} {root : List UInt8} {tm : Int} {bits : Int} {nonce : Int} {w0 : World} {X : Nat → Prop} {L : List Assn} [hprev : LenIs prev 32] [hroot : LenIs root 32] : Ctr Tryd.prog 35 [Ag [.blk 32 (RB.all prev), .blk 32 (RB.all root), .one (.int .u32 tm), .one (.int .u32 bits), .one (.int .u32 nonce)]] w0 X L (HdN tm bits nonce) (fun s0 : Sv => .slice s0.A (headB prev root tm bits nonce).length s0.c) (fun s0 : Sv => rw_ 5 RB s0 (headB prev root tm bits nonce).length (headB prev root tm bits nonce) :: L) (fun s0 : Sv => (headB prev root tm bits nonce).length = 76) :=
  ctr' (M' := (fun s0 : Sv => [rw_ 5 RB s0 (headB prev root tm bits nonce).length (headB prev root tm bits nonce)])) (by kernel_rfl) (fun hp w hw => by exact head_Put _ _ _ _ _ w hp) (by rintro hp ⟨s0, n0, x0⟩ rfl ok; cases ok.row; exact ⟨s0, rfl, rfl, headB_len hprev.h hroot.h hp⟩)
theorem head_Get1 (i : Int) (g : Nat) (lA : Option Addr) (lc : Nat) (l : List UInt8) (w0 : World) (hg : Pr w0 g [.one (.slice lA l.length lc)]) (hl : Slr w0 RB (.slice lA l.length lc) l) (hp : l.length ≤ 140737488351232) :
    Ct Tryd.prog 71 [.int .i64 i, .pointer (some ⟨g, 0, none⟩)] w0 no (fun (e0 : Int) => .int .u32 e0) (fun e0 => []) (fun e0 => e0 = getN l i 4) := by
  have hst := St.start w0
  have i_g := Rp.old hg
  have i_l := Rw.old hl
  have h4 := getN_4 l i
  refine genter _ hst Tryd.func71 rfl rfl rfl rfl ?_
  repeat' (first
   | (refine z1 ?_; intros)
   | (refine z2 ?_ ?_ <;> first | exact zi | intro h | skip)
   | (refine kR ?_; refine zr (_) ?_)
   | (refine kO ?_; refine zc ?_ ?_ <;> intros))
  all_goals rfl
instance c_head_Get1 {i : Int} {g : Nat} {lA : Option Addr} {ln lc : Nat} {l : List UInt8} {w0 : World} {X : Nat → Prop} {L : List Assn} [hg : Rp w0 X L g [.one (.slice lA ln lc)]] [hl : Rw w0 X L (.slice lA ln lc) RB l] :
    Ctr Tryd.prog 71 [.int .i64 i, .pointer (some ⟨g, 0, none⟩)] w0 X L (l.length ≤ 140737488351232) (fun _ : Unit => .int .u32 (getN l i 4)) (fun _ => L) (fun _ => 0 ≤ getN l i 4 ∧ getN l i 4 ≤ 4294967295) :=
  ctr' (M' := fun _ => []) (by kernel_rfl) (fun hp w hw => by have el := hl.len hw; subst el; exact head_Get1 _ _ _ _ _ w (hg.get w hw) (hl.get w hw) hp) (by rintro hp e0 rfl ok; exact ⟨(), rfl, rfl, (getN_b l i 4).1, getN_4 l i⟩)
instance iZSbytes : ZS Tryd.prog 28 [.one (.slice none 0 0)] := ⟨by kernel_rfl, trivial⟩
theorem head_Get (lA : Option Addr) (lc : Nat) (l : List UInt8) (i : Int) (w0 : World) (hl : Slr w0 RB (.slice lA l.length lc) l) (hp : l.length ≤ 140737488351232) :
    Ct Tryd.prog 43 [.slice lA l.length lc, .int .i64 i] w0 no (fun ((e0, e1, e2, e3, e4, e5, e6) : List UInt8 × List UInt8 × Int × Int × Int × Int × Int) => .tuple #[Ag [.blk 32 (RB.all e0), .blk 32 (RB.all e1), .one (.int .u32 e2), .one (.int .u32 e3), .one (.int .u32 e4)], .int .i64 e5, .int .i64 e6]) (fun (e0, e1, e2, e3, e4, e5, e6) => []) (fun (e0, e1, e2, e3, e4, e5, e6) => e0 = ((hdV l i).prev).l ∧ e1 = ((hdV l i).root).l ∧ e2 = (hdV l i).tm ∧ e3 = (hdV l i).bits ∧ e4 = (hdV l i).nonce ∧ e5 = hdX l i ∧ e6 = hdE l i) := by
  have hst := St.start w0
  have i_l := Rw.old hl
  refine genter _ hst Tryd.func43 rfl rfl rfl rfl ?_
  by_cases hh : partE l i 76 = 0
  · have h5 := partL_len hh
    have h6 := partE_ok hh
    have e0 : hdV l i = hdG (partL l i 76) := if_pos hh
    have e1 : hdX l i = i + 76 := if_pos hh
    have e2 : hdE l i = 0 := hh
    rw [e0, e1, e2]
    have c1 : ((64 : Int) - 32).toNat = 32 := rfl
    have c2 : (Int.toNat 32) = 32 := rfl
    have c3 : (Int.toNat 0) = 0 := rfl
    repeat' (first
     | refine gdrawT (id := 5) (Od.of [0,1,2,3,4,5,6,7,8,10,12] (.fork 9 (.fork 11 (.fork 13 (Od.of [14,15,16] .nil) 15 (Od.of [13,14,16] .nil)) 15 (Od.of [11,13,14,16] .nil)) 15 (Od.of [9,11,13,14,16] .nil))) (by kernel_rfl) (by kernel_rfl) rfl ?_
     | (refine z1 ?_; intros)
     | (refine z2 ?_ ?_ <;> first | exact zi | intro h | skip)
     | (refine kR ?_; refine zr (_, _, _, _, _, _, _) ?_)
     | (refine kO ?_; refine zc ?_ ?_ <;> intros))
    all_goals (simp only [c1, c2, c3, List.drop_zero, List.take_take, Nat.min_self]; refine ⟨rfl, rfl, rfl, rfl, rfl, ?_, ?_⟩ <;> first | rfl | trivial)
  · skip
    repeat' (first
     | refine gdrawT (id := 5) (Od.of [0,1,2,3,4,5,6,7,8,10,12] (.fork 9 (.fork 11 (.fork 13 (Od.of [14,15,16] .nil) 15 (Od.of [13,14,16] .nil)) 15 (Od.of [11,13,14,16] .nil)) 15 (Od.of [9,11,13,14,16] .nil))) (by kernel_rfl) (by kernel_rfl) rfl ?_
     | (refine z1 ?_; intros)
     | (refine z2 ?_ ?_ <;> first | exact zi | intro h | skip)
     | (refine kR ?_; refine zr (_, _, _, _, _, _, _) ?_)
     | (refine kO ?_; refine zc ?_ ?_ <;> intros))
    all_goals (unfold hdV hdX hdE; simp only [if_neg hh]; exact ⟨rfl, rfl, rfl, rfl, rfl, trivial, trivial⟩)
instance c_head_Get {lA : Option Addr} {lc ln : Nat} {l : List UInt8} {i : Int} {w0 : World} {X : Nat → Prop} {L : List Assn} [hl : Rw w0 X L (.slice lA ln lc) RB l] : Ctr Tryd.prog 43 [.slice lA ln lc, .int .i64 i] w0 X L (l.length ≤ 140737488351232) (fun _ : Unit => .tuple #[Ag [.blk 32 (RB.all ((hdV l i).prev).l), .blk 32 (RB.all ((hdV l i).root).l), .one (.int .u32 ((hdV l i).tm)), .one (.int .u32 ((hdV l i).bits)), .one (.int .u32 ((hdV l i).nonce))], .int .i64 (hdX l i), .int .i64 (hdE l i)]) (fun _ : Unit => L) (fun _ : Unit => HdN (hdV l i).tm (hdV l i).bits (hdV l i).nonce ∧ (hdE l i = 0 → hdX l i = i + 76 ∧ 0 ≤ i ∧ i + 76 ≤ l.length)) :=
  ctr' (M' := (fun _ : Unit => [])) (by kernel_rfl) (fun hp w hw => by have el := hl.len hw; subst el; exact head_Get _ _ _ _ w (hl.get w hw) hp) (by rintro hp ⟨e0, e1, e2, e3, e4, e5, e6⟩ ⟨rfl, rfl, rfl, rfl, rfl, rfl, rfl⟩ ok; exact ⟨(), rfl, rfl, ⟨hdV_n l i, hdE_ok⟩⟩)
end Go.Proofs.YtalainpmlonahaaDoor
