/-
  moneyerlaw10: great.
-/
import Derived.Test.YtalainpmlonahaaDoorBs
set_option linter.all false
set_option maxRecDepth 100000
set_option maxHeartbeats 4000000
namespace Go.Proofs.YtalainpmlonahaaDoor
open Go.RowKit

theorem great10 (prev : List UInt8) [hprev : LenIs prev 32] (root : List UInt8) [hroot : LenIs root 32] (tm bits nonce : Int) (txsA : Option Addr) (txsc : Nat) (txs : List TxG) (w0 : World) (htxs : Slr w0 RTx (.slice txsA txs.length txsc) txs) (q_txs : TxsP w0 txs) :
    Ct Tryd.prog 15 [Ag [.blk 32 (RB.all prev), .blk 32 (RB.all root), .one (.int .u32 tm), .one (.int .u32 bits), .one (.int .u32 nonce), .one (.slice txsA txs.length txsc)]] w0 no (fun b : Bool => .bool b) (fun _ => []) (fun _ => True) := by
  have hst := St.start w0
  have i_txs := Rw.old htxs
  have j_txs := TxsR.old q_txs
  have hcap := htxs.cap
  refine genter _ hst Tryd.func15 rfl rfl rfl rfl ?_
  repeat' (first
   | (refine z1 ?_; intros)
   | (refine z2 ?_ ?_ <;> first | exact zi | intro h | skip)
   | (refine kR ?_; refine zr (_) ?_)
   | (refine kO ?_; refine zc ?_ ?_ <;> intros))
  rename_i g
  refine gloop2 [1] (fun (k : Nat) (n : Int) K => (3, .int .i64 n) :: (4, .int .i64 k) :: K) (fun k n => [boxA g 36 [.blk 32 (RB.all prev), .blk 32 (RB.all root), .one (.int .u32 tm), .one (.int .u32 bits), .one (.int .u32 nonce), .one (.slice txsA txs.length txsc)]]) (fun k n => k ≤ txs.length) (fun k n => txs.length - k) 0 0 rfl (by repeat (first | exact trivial | refine ⟨rfl, ?_⟩)) (eb Ent.nil) (by omega) (fun k n hk => ?_)
  repeat' (first
   | (refine z1 ?_; intros)
   | (refine z2 ?_ ?_ <;> first | exact zi | intro h | skip)
   | (refine kR ?_; refine zr (_) ?_)
   | (refine kO ?_; refine zc ?_ ?_ <;> intros))
  · rename Nat => g5
    have hm := ixd_mem (gs := txs) (i := (k : Int)) (n := txs.length) ⟨by omega⟩ rfl
    have c1 := (q_txs _ hm).i.cap
    have c2 := (q_txs _ hm).o.cap
    refine gloop2 [1, 4, 5] (fun (i : Nat) (n : Int) K => (3, .int .i64 n) :: (6, .int .i64 i) :: K) (fun i n => [boxA g5 57 (ixd txs (k : Int)).sg, boxA g 36 [.blk 32 (RB.all prev), .blk 32 (RB.all root), .one (.int .u32 tm), .one (.int .u32 bits), .one (.int .u32 nonce), .one (.slice txsA txs.length txsc)]]) (fun i n => i ≤ (ixd txs (k : Int)).ins.length) (fun i n => (ixd txs (k : Int)).ins.length - i) 0 _ rfl (by repeat (first | exact trivial | refine ⟨rfl, ?_⟩)) (eb (eb Ent.nil)) (by omega) (fun i n hi => ?_)
    repeat' (first
     | (refine z1 ?_; intros)
     | (refine z2 ?_ ?_ <;> first | exact zi | intro h | skip)
     | (refine kR ?_; refine zr (_) ?_)
     | (refine kO ?_; refine zc ?_ ?_ <;> intros))
    · exact gnl2 (i + 1) _ (by repeat (first | exact trivial | refine ⟨rfl, ?_⟩)) (by repeat (first | exact Ent.nil | refine er ?_ | refine eb ?_)) (by omega) (by omega)
    · skip
      refine gloop2 [1, 4, 5] (fun (j : Nat) (n : Int) K => (3, .int .i64 n) :: (7, .int .i64 j) :: K) (fun j n => [boxA g5 57 (ixd txs (k : Int)).sg, boxA g 36 [.blk 32 (RB.all prev), .blk 32 (RB.all root), .one (.int .u32 tm), .one (.int .u32 bits), .one (.int .u32 nonce), .one (.slice txsA txs.length txsc)]]) (fun j n => j ≤ (ixd txs (k : Int)).outs.length) (fun j n => (ixd txs (k : Int)).outs.length - j) 0 _ rfl (by repeat (first | exact trivial | refine ⟨rfl, ?_⟩)) (eb (eb Ent.nil)) (by omega) (fun j n hj => ?_)
      repeat' (first
       | (refine z1 ?_; intros)
       | (refine z2 ?_ ?_ <;> first | exact zi | intro h | skip)
       | (refine kR ?_; refine zr (_) ?_)
       | (refine kO ?_; refine zc ?_ ?_ <;> intros))
      · exact gnl2 (j + 1) _ (by repeat (first | exact trivial | refine ⟨rfl, ?_⟩)) (by repeat (first | exact Ent.nil | refine er ?_ | refine eb ?_)) (by omega) (by omega)
      · exact gnl2 (k + 1) _ (by repeat (first | exact trivial | refine ⟨rfl, ?_⟩)) (by repeat (first | exact Ent.nil | refine er ?_ | refine eb ?_)) (by omega) (by omega)
  · trivial
instance c_great10 {prev : List UInt8} [hprev : LenIs prev 32] {root : List UInt8} [hroot : LenIs root 32] {tm bits nonce : Int} {txsA : Option Addr} {txsc txsn : Nat} {txs : List TxG} {w0 : World} {X : Nat → Prop} {L : List Assn} [htxs : Rw w0 X L (.slice txsA txsn txsc) RTx txs] [q_txs : TxsR w0 X L txs] :
    Ctr Tryd.prog 15 [Ag [.blk 32 (RB.all prev), .blk 32 (RB.all root), .one (.int .u32 tm), .one (.int .u32 bits), .one (.int .u32 nonce), .one (.slice txsA txsn txsc)]] w0 X L True (fun b : Bool => .bool b) (fun _ => L) (fun _ => True) :=
  ctr' (M' := fun _ : Bool => []) (by kernel_rfl) (fun _ w hw => by have el := htxs.len hw; subst el; exact great10 _ _ _ _ _ _ _ _ w (htxs.get w hw) (q_txs.get w hw)) (by rintro _ b _ _; exact ⟨b, rfl, rfl, trivial⟩)
/-! what a transaction's key tells -/
theorem insB_key {a b : List InG} (h : a.map inK = b.map inK) : insB a = insB b := by
  have e : ∀ l : List InG, insB l = (l.map inK).flatMap fun k : InK => pointB k.1 k.2.1 k.2.2.1 ++ rowS k.2.2.2 := fun l => by
    unfold insB; rw [List.flatMap_map]; rfl
  rw [e, e, h]
theorem outsB_key {a b : List OutG} (h : a.map outK = b.map outK) : outsB a = outsB b := by
  have e : ∀ l : List OutG, outsB l = (l.map outK).flatMap fun k : OutK => outL k.1 k.2 := fun l => by
    unfold outsB; rw [List.flatMap_map]; rfl
  rw [e, e, h]
theorem insOk_key {a b : List InG} (h : a.map inK = b.map inK) : InsOk a ↔ InsOk b := by
  have e : ∀ l : List InG, InsOk l ↔ ∀ k ∈ l.map inK, k.2.2.2.length ≤ 3000 := fun l => by simp [InsOk, inK]
  rw [e, e, h]
theorem outsOk_key {a b : List OutG} (h : a.map outK = b.map outK) : OutsOk a ↔ OutsOk b := by
  have e : ∀ l : List OutG, OutsOk l ↔ ∀ k ∈ l.map outK, mayO k.1 k.2 := fun l => by simp [OutsOk, outK]
  rw [e, e, h]
theorem txB_key {a b : TxG} (h : txK a = txK b) : txB a.ins a.outs a.after = txB b.ins b.outs b.after := by
  obtain ⟨h3, h1, h2⟩ := txK_iff.1 h
  have l1 : a.ins.length = b.ins.length := by simpa using congrArg List.length h1
  have l2 : a.outs.length = b.outs.length := by simpa using congrArg List.length h2
  unfold txB; rw [insB_key h1, outsB_key h2, l1, l2, h3]
theorem txMay_key {a b : TxG} (h : txK a = txK b) : TxMay a.ins a.outs a.after ↔ TxMay b.ins b.outs b.after := by
  have hb := txB_key h
  obtain ⟨h3, h1, h2⟩ := txK_iff.1 h
  have l1 : a.ins.length = b.ins.length := by simpa using congrArg List.length h1
  have l2 : a.outs.length = b.outs.length := by simpa using congrArg List.length h2
  unfold TxMay; rw [hb, insOk_key h1, outsOk_key h2, l1, l2]
theorem txe_key {a b : TxG} (h : txK a = txK b) : a.e = b.e := by unfold TxG.e txE; simp only [txMay_key h]
theorem txb_key {a b : TxG} (h : txK a = txK b) : a.b = b.b := by unfold TxG.b txL; simp only [txMay_key h, txB_key h]
theorem txid_key {a b : TxG} (h : txK a = txK b) : a.id = b.id := by unfold TxG.id idH; simp only [txMay_key h, txB_key h]
theorem map_key {α : Type} {f : TxG → α} (hf : ∀ a b, txK a = txK b → f a = f b) : ∀ {a b : List TxG}, a.map txK = b.map txK → a.map f = b.map f
  | [], [], _ => rfl
  | [], _ :: _, h => by simp at h
  | _ :: _, [], h => by simp at h
  | x :: a, y :: b, h => by
    simp only [List.map_cons, List.cons.injEq] at h ⊢
    exact ⟨hf _ _ h.1, map_key hf h.2⟩
theorem listMay_key {a b : List TxG} (h : a.map txK = b.map txK) : ListMay a ↔ ListMay b := by
  have l : a.length = b.length := by simpa using congrArg List.length h
  have e : ∀ l : List TxG, (∀ g ∈ l, g.e = 0) ↔ ∀ x ∈ l.map TxG.e, x = 0 := fun l => by simp
  unfold ListMay; rw [e, e, map_key (fun _ _ => txe_key) h, l]
theorem idsE_key {a b : List TxG} (h : a.map txK = b.map txK) : idsE a = idsE b := by unfold idsE; simp only [listMay_key h]
theorem rootT_key {a b : List TxG} (h : a.map txK = b.map txK) : rootT a = rootT b := by
  unfold rootT idsL; simp only [listMay_key h, map_key (fun _ _ => txid_key) h]
theorem bkB_key {hd : List UInt8} {a b : List TxG} (h : a.map txK = b.map txK) : bkB hd a = bkB hd b := by
  have l : a.length = b.length := by simpa using congrArg List.length h
  unfold bkB; rw [List.flatMap_def, List.flatMap_def, map_key (fun _ _ => txb_key) h, l]
theorem sealE_ok {ts : List TxG} (h : sealE ts = 0) : idsE ts = 0 ∧ (rootT ts).2 = true := by
  unfold sealE at h
  split at h
  · contradiction
  · rename_i h1
    split at h
    · exact ⟨by simpa using h1, by assumption⟩
    · cases h
end Go.Proofs.YtalainpmlonahaaDoor
