/-
  Blocks: what is made of all transactions; a block's bytes.
-/
import Derived.Test.YtalainpmlonahaaDoorBb
import Derived.Test.YtalainpmlonahaaDoorBc
import Derived.Test.YtalainpmlonahaaDoorEa
set_option linter.all false
set_option maxRecDepth 100000
set_option maxHeartbeats 4000000
namespace Go.Proofs.YtalainpmlonahaaDoor
open Go.RowKit

instance iZSwrong : ZS Tryd.prog 94 [.one (.int .i64 0), .one (.int .i64 0)] := ⟨by kernel_rfl, trivial⟩
theorem eachF_step {txs : List TxG} {i : Nat} (hi : i < txs.length) : eachF (txs.drop i) i = if (ixd txs (i : Int)).e ≠ 0 then .wr i (ixd txs (i : Int)).e else eachF (txs.drop (i + 1)) ((i + 1 : Nat) : Int) := by
  rw [drop_ixd hi, eachF]; rfl
theorem eachE_go {txs : List TxG} (h : ¬ (txs.length = 0 ∨ 16 < txs.length)) : eachE txs = eachF txs 0 := by unfold eachE; rw [if_neg h]
theorem map_step {α β : Type} [Inhabited α] {f : α → β} {l : List α} {i : Nat} (h : i < l.length) : (l.take (i + 1)).map f = (l.take i).map f ++ [f (ixd l (i : Int))] := by
  rw [List.take_succ_eq_append_getElem h, List.map_append, ixd_eq (by simpa using h)]; simp
theorem each_Put (prev : List UInt8) [hprev : LenIs prev 32] (root : List UInt8) [hroot : LenIs root 32] (tm : Int) (bits : Int) (nonce : Int) (txsA : Option Addr) (txsc : Nat) (txs : List TxG) (w0 : World) (htxs : Slr w0 RTx (.slice txsA txs.length txsc) txs) (q_txs : TxsP w0 txs)  :
    Ct Tryd.prog 32 [Ag [.blk 32 (RB.all prev), .blk 32 (RB.all root), .one (.int .u32 tm), .one (.int .u32 bits), .one (.int .u32 nonce), .one (.slice txsA txs.length txsc)], (.func (.func 33) #[] #[])] w0 no (fun ((o0, e1) : Ow BsG × Value) => .tuple #[.slice o0.s.A o0.gs.length o0.s.c, e1]) (fun (o0, e1) => [rw_ 28 RBs o0.s o0.gs.length o0.gs, lot (o0.gs.map bsRow)]) (fun (o0, e1) => o0.gs.map bsK = (if eachE txs = .nil then txs.map TxG.b else []) ∧ e1 = Er.val (eachE txs)) := by
  have hst := St.start w0
  have i_txs := Rw.old htxs
  have j_txs := TxsR.old q_txs
  refine genter _ hst Tryd.func32 rfl rfl rfl rfl ?_
  have hN := q_txs.n
  repeat' (first
   | (refine z1 ?_; intros)
   | (refine z2 ?_ ?_ <;> first | exact zi | intro h | skip)
   | (refine kR ?_; refine zr (⟨⟨_, _⟩, _⟩, _) ?_)
   | (refine kR ?_; refine zr (⟨⟨none, 0⟩, []⟩, _) ?_)
   | (refine kO ?_; refine zc ?_ ?_ <;> intros))
  · rw [show eachE txs = .no 2 from if_pos (.inr (by omega))]; exact ⟨rfl, rfl⟩
  · have hgo := eachE_go (txs := txs) (by omega)
    refine gloop3 [1, 23, 24] (fun (i : Nat) (s : Sv) (gs : List BsG) K => (6, .slice s.A gs.length s.c) :: (25, .int .i64 i) :: K) (fun i s gs => [rw_ 28 RBs s gs.length gs, lot (gs.map bsRow)]) (fun i s gs => i ≤ txs.length ∧ gs.map bsK = (txs.take i).map TxG.b ∧ eachF txs 0 = eachF (txs.drop i) i) (fun i s gs => txs.length - i) 0 ⟨none, 0⟩ [] rfl (by repeat (first | exact trivial | refine ⟨rfl, ?_⟩)) (er0 (elot0 Ent.nil)) ⟨by omega, rfl, rfl⟩ (fun i s gs hi => ?_)
    obtain ⟨h1, h2, h3⟩ := hi
    have hgl : gs.length = i := by have := congrArg List.length h2; simpa [Nat.min_eq_left h1] using this
    by_cases hlt : i < txs.length
    · obtain ⟨n1, n2, n3⟩ := hN.at (i := i) (by omega)
      rw [eachF_step hlt] at h3
      repeat' (first
       | refine gbs RBs rfl rfl rfl rfl rfl rfl (fun _ => ?_) (fun _ => ?_)
       | (refine z1 ?_; intros)
       | (refine z2 ?_ ?_ <;> first | exact zi | intro h | skip)
       | (refine kR ?_; refine zr (⟨⟨_, _⟩, _⟩, _) ?_)
       | (refine kR ?_; refine zr (⟨⟨none, 0⟩, []⟩, _) ?_)
       | (refine kO ?_; refine zc ?_ ?_ <;> intros)
       | (refine kD ?_; exact dz))
      · rw [hgo, h3, if_pos (show (ixd txs (i : Int)).e ≠ 0 from h)]; exact ⟨rfl, rfl⟩
      · rename_i s1 _ _ s3
        rw [if_neg (show ¬ (ixd txs (i : Int)).e ≠ 0 from fun c => c h)] at h3
        refine gnl3 (i + 1) s3 (gs ++ [(s1, txL (ixd txs (i : Int)).ins (ixd txs (i : Int)).outs (ixd txs (i : Int)).after)]) (by simp only [List.length_append, List.length_cons, List.length_nil]; exact (by repeat (first | exact trivial | refine ⟨rfl, ?_⟩))) (by simp only [List.length_append, List.length_cons, List.length_nil, List.map_append, List.map_cons, List.map_nil]; exact er (elot1 Ent.nil)) ⟨hlt, by rw [map_step hlt, List.map_append, h2]; rfl, h3⟩ (by omega)
    · obtain rfl : i = txs.length := by omega
      rw [List.take_length] at h2
      rw [List.drop_length] at h3
      repeat' (first
       | (refine z1 ?_; intros)
       | (refine z2 ?_ ?_ <;> first | exact zi | intro h | skip)
       | (refine kR ?_; refine zr (⟨⟨_, _⟩, _⟩, _) ?_)
       | (refine kR ?_; refine zr (⟨⟨none, 0⟩, []⟩, _) ?_)
       | (refine kO ?_; refine zc ?_ ?_ <;> intros))
      rw [hgo, h3]
      exact ⟨h2, rfl⟩
  · rw [show eachE txs = .no 2 from if_pos (.inl (by omega))]; exact ⟨rfl, rfl⟩
instance c_each_Put {prev : List UInt8} {root : List UInt8} {tm : Int} {bits : Int} {nonce : Int} {txsA : Option Addr} {txsc txsn : Nat} {txs : List TxG} {w0 : World} {X : Nat → Prop} {L : List Assn} [hprev : LenIs prev 32] [hroot : LenIs root 32] [htxs : Rw w0 X L (.slice txsA txsn txsc) RTx txs] [q_txs : TxsR w0 X L txs] : Ctr Tryd.prog 32 [Ag [.blk 32 (RB.all prev), .blk 32 (RB.all root), .one (.int .u32 tm), .one (.int .u32 bits), .one (.int .u32 nonce), .one (.slice txsA txsn txsc)], (.func (.func 33) #[] #[])] w0 X L (True) (fun o0 : Ow BsG => .tuple #[.slice o0.s.A o0.gs.length o0.s.c, Er.val (eachE txs)]) (fun o0 : Ow BsG => rw_ 28 RBs o0.s o0.gs.length o0.gs :: lot (o0.gs.map bsRow) :: L) (fun o0 : Ow BsG => (True) ∧ (o0.gs.map bsK = (if eachE txs = .nil then txs.map TxG.b else []) ∧ o0.gs.length = ((if eachE txs = .nil then txs.map TxG.b else [])).length)) :=
  ctr' (M' := (fun o0 : Ow BsG => [rw_ 28 RBs o0.s o0.gs.length o0.gs, lot (o0.gs.map bsRow)])) (by kernel_rfl) (fun hp w hw => by have etxs := htxs.len hw; subst etxs; exact each_Put _ _ _ _ _ _ _ _ w (htxs.get w hw) (q_txs.get w hw)) (by rintro hp ⟨o0, e1⟩ ⟨q0, rfl⟩ ok; exact ⟨o0, rfl, rfl, ⟨trivial, ⟨q0, by simpa using congrArg List.length q0⟩⟩⟩)
theorem each_Id (prev : List UInt8) [hprev : LenIs prev 32] (root : List UInt8) [hroot : LenIs root 32] (tm : Int) (bits : Int) (nonce : Int) (txsA : Option Addr) (txsc : Nat) (txs : List TxG) (w0 : World) (hK : KOk w0) (htxs : Slr w0 RTx (.slice txsA txs.length txsc) txs) (q_txs : TxsP w0 txs)  :
    Ct Tryd.prog 53 [Ag [.blk 32 (RB.all prev), .blk 32 (RB.all root), .one (.int .u32 tm), .one (.int .u32 bits), .one (.int .u32 nonce), .one (.slice txsA txs.length txsc)], (.func (.func 54) #[] #[])] w0 no (fun ((⟨s0, n0, x0⟩, e1) : Br Hsh × Value) => .tuple #[.slice s0.A n0 s0.c, e1]) (fun (⟨s0, n0, x0⟩, e1) => [rw_ 30 RHs s0 n0 x0]) (fun (⟨s0, n0, x0⟩, e1) => x0 = ((if eachE txs = .nil then txs.map TxG.id else [])) ∧ e1 = Er.val (eachE txs)) := by
  have hst := St.start w0
  have j_hK := KR.old hK
  have i_txs := Rw.old htxs
  have j_txs := TxsR.old q_txs
  refine genter _ hst Tryd.func53 rfl rfl rfl rfl ?_
  have hN := q_txs.n
  repeat' (first
   | (refine z1 ?_; intros)
   | (refine z2 ?_ ?_ <;> first | exact zi | intro h | skip)
   | (refine kR ?_; refine zr (⟨⟨_, _⟩, _, _⟩, _) ?_)
   | (refine kO ?_; refine zc ?_ ?_ <;> intros))
  · rw [show eachE txs = .no 2 from if_pos (.inr (by omega))]; exact ⟨rfl, rfl⟩
  · have hgo := eachE_go (txs := txs) (by omega)
    refine gloop2 [1, 23, 24] (fun (i : Nat) (s : Sv) K => (6, .slice s.A i s.c) :: (25, .int .i64 i) :: K) (fun i s => [rw_ 30 RHs s i ((txs.take i).map TxG.id)]) (fun i s => i ≤ txs.length ∧ eachF txs 0 = eachF (txs.drop i) i) (fun i s => txs.length - i) 0 ⟨none, 0⟩ rfl (by repeat (first | exact trivial | refine ⟨rfl, ?_⟩)) (er0 Ent.nil) ⟨by omega, rfl⟩ (fun i s hi => ?_)
    obtain ⟨h1, h3⟩ := hi
    by_cases hlt : i < txs.length
    · obtain ⟨n1, n2, n3⟩ := hN.at (i := i) (by omega)
      rw [eachF_step hlt] at h3
      repeat' (first
       | refine gbs RHs rfl rfl rfl rfl rfl rfl (fun _ => ?_) (fun _ => ?_)
       | (refine z1 ?_; intros)
       | (refine z2 ?_ ?_ <;> first | exact zi | intro h | skip)
       | (refine kR ?_; refine zr (⟨⟨_, _⟩, _, _⟩, _) ?_)
       | (refine kO ?_; refine zc ?_ ?_ <;> intros)
       | (refine kD ?_; exact dz))
      · rw [hgo, h3, if_pos (show (ixd txs (i : Int)).e ≠ 0 from h)]; exact ⟨rfl, rfl⟩
      · rename_i s3
        rw [if_neg (show ¬ (ixd txs (i : Int)).e ≠ 0 from fun c => c h)] at h3
        exact gnl2 (i + 1) s3 (by repeat (first | exact trivial | refine ⟨rfl, ?_⟩)) (by rw [map_step hlt, show TxG.id (ixd txs (i : Int)) = idH (ixd txs (i : Int)).ins (ixd txs (i : Int)).outs (ixd txs (i : Int)).after from rfl]; exact er Ent.nil) ⟨hlt, h3⟩ (by omega)
    · obtain rfl : i = txs.length := by omega
      rw [List.drop_length] at h3
      repeat' (first
       | (refine z1 ?_; intros)
       | (refine z2 ?_ ?_ <;> first | exact zi | intro h | skip)
       | (refine kR ?_; refine zr (⟨⟨_, _⟩, _, _⟩, _) ?_)
       | (refine kO ?_; refine zc ?_ ?_ <;> intros))
      rw [hgo, h3, List.take_length]
      exact ⟨rfl, rfl⟩
  · rw [show eachE txs = .no 2 from if_pos (.inl (by omega))]; exact ⟨rfl, rfl⟩
instance c_each_Id {prev : List UInt8} {root : List UInt8} {tm : Int} {bits : Int} {nonce : Int} {txsA : Option Addr} {txsc txsn : Nat} {txs : List TxG} {w0 : World} {X : Nat → Prop} {L : List Assn} [hK : KR w0 X L] [hprev : LenIs prev 32] [hroot : LenIs root 32] [htxs : Rw w0 X L (.slice txsA txsn txsc) RTx txs] [q_txs : TxsR w0 X L txs] : Ctr Tryd.prog 53 [Ag [.blk 32 (RB.all prev), .blk 32 (RB.all root), .one (.int .u32 tm), .one (.int .u32 bits), .one (.int .u32 nonce), .one (.slice txsA txsn txsc)], (.func (.func 54) #[] #[])] w0 X L (True) (fun s0 : Sv => .tuple #[.slice s0.A ((if eachE txs = .nil then txs.map TxG.id else [])).length s0.c, Er.val (eachE txs)]) (fun s0 : Sv => rw_ 30 RHs s0 ((if eachE txs = .nil then txs.map TxG.id else [])).length ((if eachE txs = .nil then txs.map TxG.id else [])) :: L) (fun s0 : Sv => True) :=
  ctr' (M' := (fun s0 : Sv => [rw_ 30 RHs s0 ((if eachE txs = .nil then txs.map TxG.id else [])).length ((if eachE txs = .nil then txs.map TxG.id else []))])) (by kernel_rfl) (fun hp w hw => by have etxs := htxs.len hw; subst etxs; exact each_Id _ _ _ _ _ _ _ _ w (hK.get w hw) (htxs.get w hw) (q_txs.get w hw)) (by rintro hp ⟨⟨s0, n0, x0⟩, e1⟩ ⟨rfl, rfl⟩ ok; cases ok.row; exact ⟨s0, rfl, rfl, trivial⟩)
end Go.Proofs.YtalainpmlonahaaDoor
