/-
  Blocks: Put, Ids, Sealed, Seal, Same.
-/
import Derived.Test.YtalainpmlonahaaDoorBd
set_option linter.all false
set_option maxRecDepth 100000
set_option maxHeartbeats 4000000
namespace Go.Proofs.YtalainpmlonahaaDoor
open Go.RowKit

theorem bkL_le (hd : List UInt8) (ts : List TxG) : (bkL hd ts).length ≤ 20000 := by
  unfold bkL; split
  · rename_i h; exact h.2
  · simp
theorem cat_map {gs : List BsG} {ls : List (List UInt8)} (h : gs.map bsK = ls) : catL gs = ls.flatten := by
  rw [← h]; unfold catL; rw [List.flatMap_def]
theorem txs_len16 {txs : List TxG} (h : txs.length ≤ 16) : (txs.flatMap TxG.b).length ≤ 128000 := by
  have := txs_len (ts := txs) 16
  rwa [List.take_of_length_le h] at this
theorem block_Put (prev : List UInt8) [hprev : LenIs prev 32] (root : List UInt8) [hroot : LenIs root 32] (tm : Int) (bits : Int) (nonce : Int) (txsA : Option Addr) (txsc : Nat) (txs : List TxG) (w0 : World) (hE : EOk w0) (htxs : Slr w0 RTx (.slice txsA txs.length txsc) txs) (q_txs : TxsP w0 txs) (hp : HdN tm bits nonce) :
    Ct Tryd.prog 18 [Ag [.blk 32 (RB.all prev), .blk 32 (RB.all root), .one (.int .u32 tm), .one (.int .u32 bits), .one (.int .u32 nonce), .one (.slice txsA txs.length txsc)]] w0 no (fun ((⟨s0, n0, x0⟩, e1) : Br UInt8 × Int) => .tuple #[.slice s0.A n0 s0.c, .int .i64 e1]) (fun (⟨s0, n0, x0⟩, e1) => [rw_ 5 RB s0 n0 x0]) (fun (⟨s0, n0, x0⟩, e1) => x0 = (bkL (headB prev root tm bits nonce) txs) ∧ e1 = bkE (headB prev root tm bits nonce) txs) := by
  have hst := St.start w0
  have j_hE := ER.old hE
  have i_txs := Rw.old htxs
  have j_txs := TxsR.old q_txs
  refine genter _ hst Tryd.func18 rfl rfl rfl rfl ?_
  have hd := headB_len hprev.h hroot.h hp
  by_cases hm : ListMay txs
  · have e0 := (eachE_nil txs).2 hm
    have hl := txs_len16 hm.1.2
    have hc := countS_b txs.length
    have hcl : ∀ o : Ow BsG, (True ∧ (o.gs.map bsK = (if eachE txs = .nil then txs.map TxG.b else []) ∧ o.gs.length = (if eachE txs = .nil then txs.map TxG.b else []).length)) → catL o.gs = txs.flatMap TxG.b ∧ IntKind.u64.wrap (o.gs.length : Int) = (txs.length : Int) := fun o ho => by
      rw [if_pos e0] at ho
      have h2 : o.gs.length = txs.length := by simpa using ho.2.2
      have := hm.1.2
      exact ⟨by rw [cat_map ho.2.1, List.flatMap_def], by rw [h2, IntKind.wrap_u64]; omega⟩
    have p1 : ∀ o : Ow BsG, (True ∧ (o.gs.map bsK = (if eachE txs = .nil then txs.map TxG.b else []) ∧ o.gs.length = (if eachE txs = .nil then txs.map TxG.b else []).length)) → 0 ≤ IntKind.u64.wrap (o.gs.length : Int) := fun o ho => by rw [(hcl o ho).2]; omega
    have p2 : ∀ o : Ow BsG, (True ∧ (o.gs.map bsK = (if eachE txs = .nil then txs.map TxG.b else []) ∧ o.gs.length = (if eachE txs = .nil then txs.map TxG.b else []).length)) → (catL o.gs).length ≤ 140737488351232 := fun o ho => by rw [(hcl o ho).1]; omega
    have p3 : ∀ (o : Ow BsG) (s1 s2 s3 : Sv), (True ∧ (o.gs.map bsK = (if eachE txs = .nil then txs.map TxG.b else []) ∧ o.gs.length = (if eachE txs = .nil then txs.map TxG.b else []).length)) → catL [(s1, headB prev root tm bits nonce), (s2, countS (IntKind.u64.wrap (o.gs.length : Int))), (s3, catL o.gs)] = bkB (headB prev root tm bits nonce) txs := fun o s1 s2 s3 ho => by
      rw [(hcl o ho).1, (hcl o ho).2]; simp [catL, bkB]
    have p4 : ∀ (o : Ow BsG) (s1 s2 s3 : Sv), (True ∧ (o.gs.map bsK = (if eachE txs = .nil then txs.map TxG.b else []) ∧ o.gs.length = (if eachE txs = .nil then txs.map TxG.b else []).length)) → (catL [(s1, headB prev root tm bits nonce), (s2, countS (IntKind.u64.wrap (o.gs.length : Int))), (s3, catL o.gs)]).length ≤ 140737488351232 := fun o s1 s2 s3 ho => by
      rw [p3 o s1 s2 s3 ho]; simp only [bkB, List.length_append]; omega
    repeat' (first
     | refine gbs RBs rfl rfl rfl rfl rfl rfl (fun _ => ?_) (fun _ => ?_)
     | (refine z1 ?_; intros)
     | (refine z2 ?_ ?_ <;> first | exact zi | intro h | skip)
     | (refine kR ?_; refine zr (⟨⟨_, _⟩, _, _⟩, _) ?_)
     | (refine kO ?_; refine zc ?_ ?_ <;> intros)
     | exact Pre.mk (p1 _ (by assumption))
     | exact Pre.mk (p2 _ (by assumption))
     | exact Pre.mk (p4 _ _ _ _ (by assumption))
     | (refine kD ?_; exact dz))
    · rename (_ : Int) < _ => h9
      rw [p3 _ _ _ _ (by assumption)] at h9
      rw [show bkL (headB prev root tm bits nonce) txs = [] from if_neg fun h => by have := h.2; omega, show bkE (headB prev root tm bits nonce) txs = 2 from if_neg fun h => by have := h.2; omega]
      exact ⟨rfl, rfl⟩
    · rename ¬ (_ : Int) < _ => h9
      rw [p3 _ _ _ _ (by assumption)] at h9 ⊢
      rw [show bkL (headB prev root tm bits nonce) txs = bkB (headB prev root tm bits nonce) txs from if_pos ⟨hm, by omega⟩, show bkE (headB prev root tm bits nonce) txs = 0 from if_pos ⟨hm, by omega⟩]
      exact ⟨rfl, rfl⟩
  · have e0 : eachE txs ≠ .nil := fun e => hm ((eachE_nil txs).1 e)
    have e1 : (eachE txs).num = 2 := by rw [eachE_num, if_neg hm]
    have e2 : bkE (headB prev root tm bits nonce) txs = 2 := if_neg fun h => hm h.1
    have e3 : bkL (headB prev root tm bits nonce) txs = [] := if_neg fun h => hm h.1
    rw [e2, e3]
    repeat' (first
     | (refine z1 ?_; intros)
     | (refine z2 ?_ ?_ <;> first | exact zi | intro h | skip)
     | (refine kR ?_; refine zr (⟨⟨_, _⟩, _, _⟩, _) ?_)
     | (refine kO ?_; refine zc ?_ ?_ <;> intros))
    all_goals exact ⟨rfl, e1⟩
instance c_block_Put {prev : List UInt8} {root : List UInt8} {tm : Int} {bits : Int} {nonce : Int} {txsA : Option Addr} {txsc txsn : Nat} {txs : List TxG} {w0 : World} {X : Nat → Prop} {L : List Assn} [hE : ER w0 X L] [hprev : LenIs prev 32] [hroot : LenIs root 32] [htxs : Rw w0 X L (.slice txsA txsn txsc) RTx txs] [q_txs : TxsR w0 X L txs] : Ctr Tryd.prog 18 [Ag [.blk 32 (RB.all prev), .blk 32 (RB.all root), .one (.int .u32 tm), .one (.int .u32 bits), .one (.int .u32 nonce), .one (.slice txsA txsn txsc)]] w0 X L (HdN tm bits nonce) (fun s0 : Sv => .tuple #[.slice s0.A (bkL (headB prev root tm bits nonce) txs).length s0.c, .int .i64 (bkE (headB prev root tm bits nonce) txs)]) (fun s0 : Sv => rw_ 5 RB s0 (bkL (headB prev root tm bits nonce) txs).length (bkL (headB prev root tm bits nonce) txs) :: L) (fun s0 : Sv => (bkL (headB prev root tm bits nonce) txs).length ≤ 20000) :=
  ctr' (M' := (fun s0 : Sv => [rw_ 5 RB s0 (bkL (headB prev root tm bits nonce) txs).length (bkL (headB prev root tm bits nonce) txs)])) (by kernel_rfl) (fun hp w hw => by have etxs := htxs.len hw; subst etxs; exact block_Put _ _ _ _ _ _ _ _ w (hE.get w hw) (htxs.get w hw) (q_txs.get w hw) hp) (by rintro hp ⟨⟨s0, n0, x0⟩, e1⟩ ⟨rfl, rfl⟩ ok; cases ok.row; exact ⟨s0, rfl, rfl, bkL_le _ _⟩)
theorem idsL_le (ts : List TxG) : (idsL ts).length ≤ 16 := by
  unfold idsL; split
  · rename_i h; simpa using h.1.2
  · simp
theorem block_Ids (prev : List UInt8) [hprev : LenIs prev 32] (root : List UInt8) [hroot : LenIs root 32] (tm : Int) (bits : Int) (nonce : Int) (txsA : Option Addr) (txsc : Nat) (txs : List TxG) (w0 : World) (hK : KOk w0) (hE : EOk w0) (htxs : Slr w0 RTx (.slice txsA txs.length txsc) txs) (q_txs : TxsP w0 txs)  :
    Ct Tryd.prog 29 [Ag [.blk 32 (RB.all prev), .blk 32 (RB.all root), .one (.int .u32 tm), .one (.int .u32 bits), .one (.int .u32 nonce), .one (.slice txsA txs.length txsc)]] w0 no (fun ((⟨s0, n0, x0⟩, e1) : Br Hsh × Int) => .tuple #[.slice s0.A n0 s0.c, .int .i64 e1]) (fun (⟨s0, n0, x0⟩, e1) => [rw_ 30 RHs s0 n0 x0]) (fun (⟨s0, n0, x0⟩, e1) => x0 = (idsL txs) ∧ e1 = idsE txs) := by
  have hst := St.start w0
  have j_hK := KR.old hK
  have j_hE := ER.old hE
  have i_txs := Rw.old htxs
  have j_txs := TxsR.old q_txs
  refine genter _ hst Tryd.func29 rfl rfl rfl rfl ?_
  have e0 : (if eachE txs = .nil then txs.map TxG.id else []) = idsL txs := by
    unfold idsL
    by_cases h : ListMay txs
    · rw [if_pos h, if_pos ((eachE_nil txs).2 h)]
    · rw [if_neg h, if_neg fun e => h ((eachE_nil txs).1 e)]
  have e1 : (eachE txs).num = idsE txs := eachE_num txs
  repeat' (first
   | (refine z1 ?_; intros)
   | (refine z2 ?_ ?_ <;> first | exact zi | intro h | skip)
   | (refine kR ?_; refine zr (⟨⟨_, _⟩, _, _⟩, _) ?_)
   | (refine kO ?_; refine zc ?_ ?_ <;> intros))
  all_goals exact ⟨e0, e1⟩
instance c_block_Ids {prev : List UInt8} {root : List UInt8} {tm : Int} {bits : Int} {nonce : Int} {txsA : Option Addr} {txsc txsn : Nat} {txs : List TxG} {w0 : World} {X : Nat → Prop} {L : List Assn} [hK : KR w0 X L] [hE : ER w0 X L] [hprev : LenIs prev 32] [hroot : LenIs root 32] [htxs : Rw w0 X L (.slice txsA txsn txsc) RTx txs] [q_txs : TxsR w0 X L txs] : Ctr Tryd.prog 29 [Ag [.blk 32 (RB.all prev), .blk 32 (RB.all root), .one (.int .u32 tm), .one (.int .u32 bits), .one (.int .u32 nonce), .one (.slice txsA txsn txsc)]] w0 X L (True) (fun s0 : Sv => .tuple #[.slice s0.A (idsL txs).length s0.c, .int .i64 (idsE txs)]) (fun s0 : Sv => rw_ 30 RHs s0 (idsL txs).length (idsL txs) :: L) (fun s0 : Sv => (idsL txs).length ≤ 16) :=
  ctr' (M' := (fun s0 : Sv => [rw_ 30 RHs s0 (idsL txs).length (idsL txs)])) (by kernel_rfl) (fun hp w hw => by have etxs := htxs.len hw; subst etxs; exact block_Ids _ _ _ _ _ _ _ _ w (hK.get w hw) (hE.get w hw) (htxs.get w hw) (q_txs.get w hw)) (by rintro hp ⟨⟨s0, n0, x0⟩, e1⟩ ⟨rfl, rfl⟩ ok; cases ok.row; exact ⟨s0, rfl, rfl, idsL_le _⟩)
theorem block_Sealed (prev : List UInt8) [hprev : LenIs prev 32] (root : List UInt8) [hroot : LenIs root 32] (tm : Int) (bits : Int) (nonce : Int) (txsA : Option Addr) (txsc : Nat) (txs : List TxG) (w0 : World) (hK : KOk w0) (hE : EOk w0) (htxs : Slr w0 RTx (.slice txsA txs.length txsc) txs) (q_txs : TxsP w0 txs)  :
    Ct Tryd.prog 17 [Ag [.blk 32 (RB.all prev), .blk 32 (RB.all root), .one (.int .u32 tm), .one (.int .u32 bits), .one (.int .u32 nonce), .one (.slice txsA txs.length txsc)]] w0 no (fun ((e0) : Bool) => .bool e0) (fun (e0) => []) (fun (e0) => e0 = sealedB root txs) := by
  have hst := St.start w0
  have j_hK := KR.old hK
  have j_hE := ER.old hE
  have i_txs := Rw.old htxs
  have j_txs := TxsR.old q_txs
  refine genter _ hst Tryd.func17 rfl rfl rfl rfl ?_
  have e : rootT txs = rootF (idsL txs) := rfl
  repeat' (first
   | (refine z1 ?_; intros)
   | (refine z2 ?_ ?_ <;> first | exact zi | intro h | skip)
   | (refine kR ?_; refine zr (_) ?_)
   | (refine kO ?_; refine zc ?_ ?_ <;> intros))
  all_goals (unfold sealedB; rw [e]; simp only [*]; simp)
instance c_block_Sealed {prev : List UInt8} {root : List UInt8} {tm : Int} {bits : Int} {nonce : Int} {txsA : Option Addr} {txsc txsn : Nat} {txs : List TxG} {w0 : World} {X : Nat → Prop} {L : List Assn} [hK : KR w0 X L] [hE : ER w0 X L] [hprev : LenIs prev 32] [hroot : LenIs root 32] [htxs : Rw w0 X L (.slice txsA txsn txsc) RTx txs] [q_txs : TxsR w0 X L txs] : Ctr Tryd.prog 17 [Ag [.blk 32 (RB.all prev), .blk 32 (RB.all root), .one (.int .u32 tm), .one (.int .u32 bits), .one (.int .u32 nonce), .one (.slice txsA txsn txsc)]] w0 X L (True) (fun _ : Unit => .bool (sealedB root txs)) (fun _ : Unit => L) (fun _ : Unit => True) :=
  ctr' (M' := (fun _ : Unit => [])) (by kernel_rfl) (fun hp w hw => by have etxs := htxs.len hw; subst etxs; exact block_Sealed _ _ _ _ _ _ _ _ w (hK.get w hw) (hE.get w hw) (htxs.get w hw) (q_txs.get w hw)) (by rintro hp e0 rfl ok; exact ⟨(), rfl, rfl, trivial⟩)
theorem sl_Clone (lA : Option Addr) (lc : Nat) (l : List UInt8) (w0 : World) (hl : Slr w0 RB (.slice lA l.length lc) l) (hp : l.length ≤ 140737488351232) :
    Ct Tryd.prog 56 [.slice lA l.length lc] w0 no (fun ((⟨s0, n0, x0⟩) : Br UInt8) => .slice s0.A n0 s0.c) (fun (⟨s0, n0, x0⟩) => [rw_ 5 RB s0 n0 x0]) (fun (⟨s0, n0, x0⟩) => x0 = (l)) := by
  have hst := St.start w0
  have i_l := Rw.old hl
  refine genter _ hst Tryd.func56 rfl rfl rfl rfl ?_
  repeat' (first
   | refine gbe RB rfl rfl (fun _ _ => ?_) (fun _ _ => ?_)
   | (refine z1 ?_; intros)
   | (refine z2 ?_ ?_ <;> first | exact zi | intro h | skip)
   | (refine kR ?_; refine zr (⟨⟨_, _⟩, _, _⟩) ?_)
   | (refine kO ?_; refine zc ?_ ?_ <;> intros)
   | (refine kD ?_; exact dz))
  · exact (hl.isNone h).symm
  · simp
instance c_sl_Clone {lA : Option Addr} {lc ln : Nat} {l : List UInt8} {w0 : World} {X : Nat → Prop} {L : List Assn} [hl : Rw w0 X L (.slice lA ln lc) RB l] : Ctr Tryd.prog 56 [.slice lA ln lc] w0 X L (l.length ≤ 140737488351232) (fun s0 : Sv => .slice s0.A (l).length s0.c) (fun s0 : Sv => rw_ 5 RB s0 (l).length (l) :: L) (fun s0 : Sv => True) :=
  ctr' (M' := (fun s0 : Sv => [rw_ 5 RB s0 (l).length (l)])) (by kernel_rfl) (fun hp w hw => by have el := hl.len hw; subst el; exact sl_Clone _ _ _ w (hl.get w hw) hp) (by rintro hp ⟨s0, n0, x0⟩ rfl ok; cases ok.row; exact ⟨s0, rfl, rfl, trivial⟩)
/-- transactions of the call's own -/
structure TxsM where
  s : Sv
  gs : List TxG
  h : TxsN gs
instance iTxsM {r : TxsM} : TxsNc r.gs := ⟨r.h⟩
theorem TxsN_snoc {gs : List TxG} {g : TxG} (h : TxsN gs) (hg : TxgN g) : TxsN (gs ++ [g]) := fun x hx => by
  rcases List.mem_append.1 hx with hx | hx
  · exact h x hx
  · rw [List.mem_singleton.1 hx]; exact hg
theorem map_snoc {α β : Type} [Inhabited α] {f : α → β} {gs l : List α} {i : Nat} {g : α} (h : gs.map f = (l.take i).map f) (hi : i < l.length) (hg : f g = f (ixd l (i : Int))) : (gs ++ [g]).map f = (l.take (i + 1)).map f := by
  rw [map_step hi, List.map_append, h, ← hg]; rfl
theorem ListMay.at {txs : List TxG} (h : ListMay txs) {i : Int} (hi : 0 ≤ i ∧ i < txs.length) : TxMay (ixd txs i).ins (ixd txs i).outs (ixd txs i).after := by
  have := h.2 _ (ixd_mem (gs := txs) (n := txs.length) ⟨hi⟩ rfl)
  unfold TxG.e txE at this
  split at this
  · assumption
  · cases this
theorem block_copied (prev : List UInt8) [hprev : LenIs prev 32] (root : List UInt8) [hroot : LenIs root 32] (tm bits nonce : Int) (txsA : Option Addr) (txsc : Nat) (txs : List TxG) (w0 : World) (htxs : Slr w0 RTx (.slice txsA txs.length txsc) txs) (q_txs : TxsP w0 txs) (hp : ListMay txs) :
    Ct Tryd.prog 31 [Ag [.blk 32 (RB.all prev), .blk 32 (RB.all root), .one (.int .u32 tm), .one (.int .u32 bits), .one (.int .u32 nonce), .one (.slice txsA txs.length txsc)]] w0 no (fun r : TxsM => Ag [.blk 32 (RB.all prev), .blk 32 (RB.all root), .one (.int .u32 tm), .one (.int .u32 bits), .one (.int .u32 nonce), .one (.slice r.s.A r.gs.length r.s.c)]) (fun r => [rw_ 57 RTx r.s r.gs.length r.gs, lot (r.gs.flatMap txRow)]) (fun r => r.gs.map txK = txs.map txK) := by
  have hst := St.start w0
  have i_txs := Rw.old htxs
  have j_txs := TxsR.old q_txs
  have hN := q_txs.n
  have h16 := hp.1.2
  refine genter _ hst Tryd.func31 rfl rfl rfl rfl ?_
  repeat' (first
   | refine gdraw (id := 9) [0,1,2,3,4,5,6,7,8,9,10,11] (by kernel_rfl) (by kernel_rfl) rfl ?_
   | refine gdraw (id := 14) [0,1,2,3,4,5,6,7,8,9,10,11] (by kernel_rfl) (by kernel_rfl) rfl ?_
   | (refine z1 ?_; intros)
   | (refine z2 ?_ ?_ <;> first | exact zi | intro h | skip)
   | (refine kO ?_; refine zc ?_ ?_ <;> intros))
  rename_i g1 g2 _ g3 _
  refine gloop3 [2, 3, 15, 16] (fun (i : Nat) (s : Sv) (gs : List TxG) K => (17, .int .i64 i) :: K) (fun i s gs => [boxA g3 36 [.blk 32 (RB.all prev), .blk 32 (RB.all root), .one (.int .u32 tm), .one (.int .u32 bits), .one (.int .u32 nonce), .one (.slice s.A gs.length s.c)], rw_ 57 RTx s gs.length gs, lot (gs.flatMap txRow), boxA g2 36 [.blk 32 (RB.all (List.replicate 32 0)), .blk 32 (RB.all (List.replicate 32 0)), .one (.int .u32 0), .one (.int .u32 0), .one (.int .u32 0), .one (.slice none 0 0)]]) (fun i s gs => i ≤ txs.length ∧ gs.map txK = (txs.take i).map txK ∧ TxsN gs) (fun i s gs => txs.length - i) 0 ⟨none, 0⟩ [] rfl (by repeat (first | exact trivial | refine ⟨rfl, ?_⟩)) (by exact eb (er0 (elot0 (eb Ent.nil)))) ⟨by omega, rfl, nofun⟩ (fun i s gs hi => ?_)
  obtain ⟨h1, h2, h3⟩ := hi
  have hsl : gs.length = i := by have := congrArg List.length h2; simpa [Nat.min_eq_left h1] using this
  by_cases hlt : i < txs.length
  · obtain ⟨⟨a1, a2'⟩, a2, a3⟩ := hN.at (i := i) (by omega)
    obtain ⟨m1, m2, m3, m4, m5⟩ := hp.at (i := i) (by omega)
    repeat' (first
     | refine gdraw (id := 9) [0,1,2,3,4,5,6,7,8,9,10,11] (by kernel_rfl) (by kernel_rfl) rfl ?_
     | refine gdraw (id := 14) [0,1,2,3,4,5,6,7,8,9,10,11] (by kernel_rfl) (by kernel_rfl) rfl ?_
     | (refine z1 ?_; intros)
     | (refine z2 ?_ ?_ <;> first | exact zi | intro h | skip)
     | (refine kO ?_; refine zc ?_ ?_ <;> intros))
    rename_i _ _ g5 _ g6 _
    refine gloop3 [2, 3, 5, 6, 15, 16, 17, 25, 26] (fun (j : Nat) (si : Sv) (gi : List InG) K => (27, .int .i64 j) :: K) (fun j si gi => [boxA g6 57 [.one (.slice si.A gi.length si.c), .one (.slice none 0 0), .one (.int .u32 (ixd txs (i : Int)).after)], rw_ 74 RIn si gi.length gi, lot (gi.map inRow), boxA g5 57 [.one (.slice (ixd txs (i : Int)).si.A (ixd txs (i : Int)).ins.length (ixd txs (i : Int)).si.c), .one (.slice (ixd txs (i : Int)).so.A (ixd txs (i : Int)).outs.length (ixd txs (i : Int)).so.c), .one (.int .u32 (ixd txs (i : Int)).after)], boxA g3 36 [.blk 32 (RB.all prev), .blk 32 (RB.all root), .one (.int .u32 tm), .one (.int .u32 bits), .one (.int .u32 nonce), .one (.slice s.A gs.length s.c)], rw_ 57 RTx s gs.length gs, lot (gs.flatMap txRow), boxA g2 36 [.blk 32 (RB.all (List.replicate 32 0)), .blk 32 (RB.all (List.replicate 32 0)), .one (.int .u32 0), .one (.int .u32 0), .one (.int .u32 0), .one (.slice none 0 0)]]) (fun j si gi => j ≤ (ixd txs (i : Int)).ins.length ∧ gi.map inK = ((ixd txs (i : Int)).ins.take j).map inK ∧ InsN gi) (fun j si gi => (ixd txs (i : Int)).ins.length - j) 0 ⟨none, 0⟩ [] rfl (by repeat (first | exact trivial | refine ⟨rfl, ?_⟩)) (by exact eb (er0 (elot0 (eb (eb (er (elot (eb Ent.nil)))))))) ⟨by omega, rfl, nofun⟩ (fun j si gi hj => ?_)
    obtain ⟨b1, b2, b3⟩ := hj
    have hil : gi.length = j := by have := congrArg List.length b2; simpa [Nat.min_eq_left b1] using this
    by_cases hlt2 : j < (ixd txs (i : Int)).ins.length
    · have c1 := m3 _ (ixd_mem (gs := (ixd txs (i : Int)).ins) (i := (j : Int)) (n := (ixd txs (i : Int)).ins.length) ⟨by omega⟩ rfl)
      have c2 := a2 _ (ixd_mem (gs := (ixd txs (i : Int)).ins) (i := (j : Int)) (n := (ixd txs (i : Int)).ins.length) ⟨by omega⟩ rfl)
      repeat' (first
       | refine gdraw (id := 9) [0,1,2,3,4,5,6,7,8,9,10,11] (by kernel_rfl) (by kernel_rfl) rfl ?_
       | refine gdraw (id := 14) [0,1,2,3,4,5,6,7,8,9,10,11] (by kernel_rfl) (by kernel_rfl) rfl ?_
       | refine gbs RIn rfl rfl rfl rfl rfl rfl (fun _ => ?_) (fun _ => ?_)
       | (refine z1 ?_; intros)
       | (refine z2 ?_ ?_ <;> first | exact zi | intro h | skip)
       | (refine kO ?_; refine zc ?_ ?_ <;> intros)
       | (refine kD ?_; exact dz))
      rename_i s3 _ _ s'
      refine gnl3 (j + 1) s' (gi ++ [(⟨(ixd (ixd txs (i : Int)).ins (j : Int)).tx, (ixd (ixd txs (i : Int)).ins (j : Int)).n, (ixd (ixd txs (i : Int)).ins (j : Int)).ht, (ixd (ixd txs (i : Int)).ins (j : Int)).ul, s3⟩ : InG)]) (by repeat (first | exact trivial | refine ⟨rfl, ?_⟩)) ?_ ⟨hlt2, map_snoc b2 hlt2 rfl, InsN_snoc b3 c2⟩ (by omega)
      simp only [List.length_append, List.length_cons, List.length_nil, List.map_append, List.map_cons, List.map_nil]
      exact eb (er (elot1 (eb (eb (er (elot (eb Ent.nil)))))))
    · obtain rfl : j = (ixd txs (i : Int)).ins.length := by omega
      rw [List.take_length] at b2
      repeat' (first
       | refine gdraw (id := 9) [0,1,2,3,4,5,6,7,8,9,10,11] (by kernel_rfl) (by kernel_rfl) rfl ?_
       | refine gdraw (id := 14) [0,1,2,3,4,5,6,7,8,9,10,11] (by kernel_rfl) (by kernel_rfl) rfl ?_
       | (refine z1 ?_; intros)
       | (refine z2 ?_ ?_ <;> first | exact zi | intro h | skip)
       | (refine kO ?_; refine zc ?_ ?_ <;> intros))
      refine gloop3 [2, 3, 6, 15, 16, 17, 44, 45] (fun (j : Nat) (so : Sv) (go : List OutG) K => (46, .int .i64 j) :: K) (fun j so go => [boxA g6 57 [.one (.slice si.A gi.length si.c), .one (.slice so.A go.length so.c), .one (.int .u32 (ixd txs (i : Int)).after)], rw_ 52 ROut so go.length go, lot (go.map outRow), rw_ 74 RIn si gi.length gi, lot (gi.map inRow), boxA g3 36 [.blk 32 (RB.all prev), .blk 32 (RB.all root), .one (.int .u32 tm), .one (.int .u32 bits), .one (.int .u32 nonce), .one (.slice s.A gs.length s.c)], rw_ 57 RTx s gs.length gs, lot (gs.flatMap txRow), boxA g2 36 [.blk 32 (RB.all (List.replicate 32 0)), .blk 32 (RB.all (List.replicate 32 0)), .one (.int .u32 0), .one (.int .u32 0), .one (.int .u32 0), .one (.slice none 0 0)]]) (fun j so go => j ≤ (ixd txs (i : Int)).outs.length ∧ go.map outK = ((ixd txs (i : Int)).outs.take j).map outK ∧ OutsN go) (fun j so go => (ixd txs (i : Int)).outs.length - j) 0 ⟨none, 0⟩ [] rfl (by repeat (first | exact trivial | refine ⟨rfl, ?_⟩)) (by exact eb (er0 (elot0 (er (elot (eb (er (elot (eb Ent.nil))))))))) ⟨by omega, rfl, nofun⟩ (fun j so go hj => ?_)
      obtain ⟨d1, d2, d3⟩ := hj
      have hol : go.length = j := by have := congrArg List.length d2; simpa [Nat.min_eq_left d1] using this
      by_cases hlt3 : j < (ixd txs (i : Int)).outs.length
      · have c1 := m4 _ (ixd_mem (gs := (ixd txs (i : Int)).outs) (i := (j : Int)) (n := (ixd txs (i : Int)).outs.length) ⟨by omega⟩ rfl)
        have c2 := a3 _ (ixd_mem (gs := (ixd txs (i : Int)).outs) (i := (j : Int)) (n := (ixd txs (i : Int)).outs.length) ⟨by omega⟩ rfl)
        obtain ⟨c3, c4⟩ := c1
        repeat' (first
         | refine gdraw (id := 9) [0,1,2,3,4,5,6,7,8,9,10,11] (by kernel_rfl) (by kernel_rfl) rfl ?_
         | refine gdraw (id := 14) [0,1,2,3,4,5,6,7,8,9,10,11] (by kernel_rfl) (by kernel_rfl) rfl ?_
         | refine gbs ROut rfl rfl rfl rfl rfl rfl (fun _ => ?_) (fun _ => ?_)
         | (refine z1 ?_; intros)
         | (refine z2 ?_ ?_ <;> first | exact zi | intro h | skip)
         | (refine kO ?_; refine zc ?_ ?_ <;> intros)
         | (refine kD ?_; exact dz))
        rename_i s3 _ _ s'
        refine gnl3 (j + 1) s' (go ++ [(⟨(ixd (ixd txs (i : Int)).outs (j : Int)).value, (ixd (ixd txs (i : Int)).outs (j : Int)).lock, s3⟩ : OutG)]) (by repeat (first | exact trivial | refine ⟨rfl, ?_⟩)) ?_ ⟨hlt3, map_snoc d2 hlt3 rfl, OutsN_snoc d3 c2⟩ (by omega)
        simp only [List.length_append, List.length_cons, List.length_nil, List.map_append, List.map_cons, List.map_nil]
        exact eb (er (elot1 (er (elot (eb (er (elot (eb Ent.nil))))))))
      · obtain rfl : j = (ixd txs (i : Int)).outs.length := by omega
        rw [List.take_length] at d2
        repeat' (first
         | refine gdraw (id := 9) [0,1,2,3,4,5,6,7,8,9,10,11] (by kernel_rfl) (by kernel_rfl) rfl ?_
         | refine gdraw (id := 14) [0,1,2,3,4,5,6,7,8,9,10,11] (by kernel_rfl) (by kernel_rfl) rfl ?_
         | refine gbs RTx rfl rfl rfl rfl rfl rfl (fun _ => ?_) (fun _ => ?_)
         | (refine z1 ?_; intros)
         | (refine z2 ?_ ?_ <;> first | exact zi | intro h | skip)
         | (refine kO ?_; refine zc ?_ ?_ <;> intros)
         | (refine kD ?_; exact dz))
        rename_i s'
        refine gnl3 (i + 1) s' (gs ++ [(⟨si, gi, so, go, (ixd txs (i : Int)).after⟩ : TxG)]) (by repeat (first | exact trivial | refine ⟨rfl, ?_⟩)) ?_ ⟨hlt, map_snoc h2 hlt (by unfold txK; rw [b2, d2]), TxsN_snoc h3 ⟨⟨a1, a2'⟩, b3, d3⟩⟩ (by omega)
        simp only [List.length_append, List.length_cons, List.length_nil, List.flatMap_append, List.flatMap_cons, List.flatMap_nil, List.append_nil]
        exact eb (er (elotT (eb Ent.nil)))
  · obtain rfl : i = txs.length := by omega
    rw [List.take_length] at h2
    repeat' (first
     | refine gdraw (id := 9) [0,1,2,3,4,5,6,7,8,9,10,11] (by kernel_rfl) (by kernel_rfl) rfl ?_
     | refine gdraw (id := 14) [0,1,2,3,4,5,6,7,8,9,10,11] (by kernel_rfl) (by kernel_rfl) rfl ?_
     | refine zr ⟨s, gs, h3⟩ ?_
     | (refine z1 ?_; intros)
     | (refine z2 ?_ ?_ <;> first | exact zi | intro h | skip)
     | (refine kO ?_; refine zc ?_ ?_ <;> intros)
     | (refine kD ?_; exact dz))
    exact h2
end Go.Proofs.YtalainpmlonahaaDoor
