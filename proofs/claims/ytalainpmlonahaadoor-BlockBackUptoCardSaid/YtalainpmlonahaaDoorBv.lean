/-
  moneyerlaw10: BlockBack.
-/
import Derived.Test.YtalainpmlonahaaDoorBt
import Derived.Test.YtalainpmlonahaaDoorBu
set_option linter.all false
set_option maxRecDepth 100000
set_option maxHeartbeats 4000000
namespace Go.Proofs.YtalainpmlonahaaDoor
open Go.RowKit

theorem bgX_b (l : List UInt8) : 0 ≤ bgX l 0 ∧ bgX l 0 ≤ l.length := by
  by_cases z : bgE l 0 = 0
  · have := (block_forth z).1; omega
  · unfold bgX; rw [if_neg z]; omega
theorem no_tf {p : Prop} (h : true = false) : p := by cases h
section
variable {prev root : List UInt8} {tm b n : Int} {txs gs : List TxG} {l : List UInt8}
theorem bkE_may {hd : List UInt8} (h : bkE hd txs = 0) : BkMay hd txs := by
  unfold bkE at h; split at h
  · assumption
  · cases h
theorem brE_back [h1 : LenIs prev 32] [h2 : LenIs root 32] (he : bkE (headB prev root tm b n) txs = 0) (n0 : TxsN txs) (n1 : HdN tm b n) : brE (bkL (headB prev root tm b n) txs) = 0 :=
  (read_back h1.h h2.h n1 n0 (bkE_may he)).1
theorem same_back [h1 : LenIs prev 32] [h2 : LenIs root 32] (he : bkE (headB prev root tm b n) txs = 0) (n0 : TxsN txs) (n1 : HdN tm b n) (hg : gs.map txK = brT (bkL (headB prev root tm b n) txs)) :
    BkSame prev root tm b n txs (brH (bkL (headB prev root tm b n) txs)).prev.l (brH (bkL (headB prev root tm b n) txs)).root.l (brH (bkL (headB prev root tm b n) txs)).tm (brH (bkL (headB prev root tm b n) txs)).bits (brH (bkL (headB prev root tm b n) txs)).nonce gs := by
  obtain ⟨_, r2, r3⟩ := read_back h1.h h2.h n1 n0 (bkE_may he)
  rw [r3] at hg
  rw [r2]
  exact ⟨⟨(toH_l h1.h).symm, (toH_l h2.h).symm, rfl, rfl, rfl⟩, hg.symm⟩
theorem same_seal (he : sealE txs = 0) (hk : gs.map txK = if sealE txs = 0 then txs.map txK else []) :
    BkSame (pickL (sealE txs = 0) prev) (pickL (sealE txs = 0) (rootT txs).1.l) (pickI (sealE txs = 0) tm) (pickI (sealE txs = 0) b) (pickI (sealE txs = 0) n) gs prev (pickL (sealE txs = 0) (rootT txs).1.l) tm b n txs := by
  rw [if_pos he] at hk
  simp only [pickL, pickI, if_pos he]
  exact ⟨⟨rfl, rfl, rfl, rfl, rfl⟩, hk⟩
theorem put_got (z : bgE l 0 = 0) (hg : gs.map txK = bgT l 0) : bkE (headB (bgH l 0).prev.l (bgH l 0).root.l (bgH l 0).tm (bgH l 0).bits (bgH l 0).nonce) gs = 0 := if_pos ((block_forth z).2 hg).1
theorem put_bytes (z : bgE l 0 = 0) (hg : gs.map txK = bgT l 0) : bkL (headB (bgH l 0).prev.l (bgH l 0).root.l (bgH l 0).tm (bgH l 0).bits (bgH l 0).nonce) gs = List.take (bgX l 0).toNat (List.drop (Int.toNat 0) l) := by
  obtain ⟨m, a, x⟩ := (block_forth z).2 hg
  have e := a.zero
  have e2 : (bgX l 0).toNat = (bkB (bgH l 0).b gs).length := by omega
  have e3 : bkL (bgH l 0).b gs = bkB (bgH l 0).b gs := if_pos m
  rw [e2]
  exact e3.trans e
end
theorem blockBack_ok (prev : List UInt8) [hprev : LenIs prev 32] (root : List UInt8) [hroot : LenIs root 32] (tm bits' nonce : Int) (txsA : Option Addr) (txsc : Nat) (txs : List TxG) (lA : Option Addr) (lc : Nat) (l : List UInt8) (w0 : World) (hK : KOk w0) (hE : EOk w0) (htxs : Slr w0 RTx (.slice txsA txs.length txsc) txs) (q_txs : TxsP w0 txs) (hl : Slr w0 RB (.slice lA l.length lc) l) (hp : HdN tm bits' nonce ∧ l.length ≤ 140737488351232) :
    Ct Tryd.prog 6 [Ag [.blk 32 (RB.all prev), .blk 32 (RB.all root), .one (.int .u32 tm), .one (.int .u32 bits'), .one (.int .u32 nonce), .one (.slice txsA txs.length txsc)], .slice lA l.length lc] w0 no (fun _ : Unit => .bool true) (fun _ => []) (fun _ => True) := by
  have hst := St.start w0
  have i_txs := Rw.old htxs
  have j_txs := TxsR.old q_txs
  have i_l := Rw.old hl
  have j_K := KR.old hK
  have j_E := ER.old hE
  have n0 := q_txs.n
  have n1 := hp.1
  have n2 := bgH_n l 0
  have n3 := brH_n (bkL (headB prev root tm bits' nonce) txs)
  have n4 := bgX_b l
  have n5 := hp.2
  have n6 := bkL_le (headB prev root tm bits' nonce) txs
  have n7 : HdN (pickI (sealE txs = 0) tm) (pickI (sealE txs = 0) bits') (pickI (sealE txs = 0) nonce) := n1.pick
  refine genter _ hst Tryd.func6 rfl rfl rfl rfl ?_
  repeat' (first
   | (refine z1 ?_; intros)
   | (refine z2 ?_ ?_ <;> first | exact zi | intro h | skip)
   | (refine kR ?_; refine zr (()) ?_)
   | (refine kO ?_; refine zc ?_ ?_ <;> intros))
  all_goals with_reducible first
    | exact trivial
    | (rename sealedB _ _ = false => c; exact no_tf ((sealed_yes (by assumption) (by assumption)).symm.trans c))
    | (rename ¬ brE _ = 0 => c; exact absurd (brE_back (by assumption) n0 n1) c)
    | (rename ¬ bkE (headB (bgH l 0).prev.l _ _ _ _) _ = 0 => c; exact absurd (put_got (by assumption) (by assumption)) c)
    | (rename ¬ bkL _ _ = _ => c; exact absurd (put_bytes (by assumption) (by assumption)) c)
    | (rename ¬ BkSame _ _ _ _ _ _ _ _ _ _ _ _ => c; first | exact absurd (same_back (by assumption) n0 n1 (by assumption)) c | exact absurd (same_seal (by assumption) (by assumption)) c)
end Go.Proofs.YtalainpmlonahaaDoor
