/-
  Blocks: Seal, Same.
-/
import Derived.Test.YtalainpmlonahaaDoorBf
set_option linter.all false
set_option maxRecDepth 100000
set_option maxHeartbeats 4000000
namespace Go.Proofs.YtalainpmlonahaaDoor
open Go.RowKit

instance c_block_copied {prev : List UInt8} [hprev : LenIs prev 32] {root : List UInt8} [hroot : LenIs root 32] {tm bits nonce : Int} {txsA : Option Addr} {txsc txsn : Nat} {txs : List TxG} {w0 : World} {X : Nat → Prop} {L : List Assn} [htxs : Rw w0 X L (.slice txsA txsn txsc) RTx txs] [q_txs : TxsR w0 X L txs] :
    Ctr Tryd.prog 31 [Ag [.blk 32 (RB.all prev), .blk 32 (RB.all root), .one (.int .u32 tm), .one (.int .u32 bits), .one (.int .u32 nonce), .one (.slice txsA txsn txsc)]] w0 X L (ListMay txs) (fun r : TxsM => Ag [.blk 32 (RB.all prev), .blk 32 (RB.all root), .one (.int .u32 tm), .one (.int .u32 bits), .one (.int .u32 nonce), .one (.slice r.s.A r.gs.length r.s.c)]) (fun r => rw_ 57 RTx r.s r.gs.length r.gs :: lot (r.gs.flatMap txRow) :: L) (fun r => r.gs.map txK = txs.map txK) :=
  ctr' (M' := fun r : TxsM => [rw_ 57 RTx r.s r.gs.length r.gs, lot (r.gs.flatMap txRow)]) (by kernel_rfl) (fun hp w hw => by have el := htxs.len hw; subst el; exact block_copied _ _ _ _ _ _ _ _ w (htxs.get w hw) (q_txs.get w hw) hp) (by rintro hp ⟨s, gs, h⟩ hk ok; exact ⟨⟨s, gs, h⟩, rfl, rfl, hk⟩)
def pickL (c : Prop) [Decidable c] (l : List UInt8) : List UInt8 := if c then l else List.replicate 32 0
def pickI (c : Prop) [Decidable c] (n : Int) : Int := if c then n else 0
instance iPickL {c : Prop} [Decidable c] {l : List UInt8} [h : LenIs l 32] : LenIs (pickL c l) 32 := ⟨by unfold pickL; split; exact h.h; rfl⟩
theorem HdN.pick {c : Prop} [Decidable c] {t b n : Int} (h : HdN t b n) : HdN (pickI c t) (pickI c b) (pickI c n) := by
  unfold pickI; split
  · exact h
  · simp [HdN]
theorem block_Seal (prev : List UInt8) [hprev : LenIs prev 32] (root : List UInt8) [hroot : LenIs root 32] (tm bits nonce : Int) (txsA : Option Addr) (txsc : Nat) (txs : List TxG) (w0 : World) (hK : KOk w0) (hE : EOk w0) (htxs : Slr w0 RTx (.slice txsA txs.length txsc) txs) (q_txs : TxsP w0 txs) :
    Ct Tryd.prog 16 [Ag [.blk 32 (RB.all prev), .blk 32 (RB.all root), .one (.int .u32 tm), .one (.int .u32 bits), .one (.int .u32 nonce), .one (.slice txsA txs.length txsc)]] w0 no (fun r : TxsM => .tuple #[Ag [.blk 32 (RB.all (pickL (sealE txs = 0) prev)), .blk 32 (RB.all (pickL (sealE txs = 0) (rootT txs).1.l)), .one (.int .u32 (pickI (sealE txs = 0) tm)), .one (.int .u32 (pickI (sealE txs = 0) bits)), .one (.int .u32 (pickI (sealE txs = 0) nonce)), .one (.slice r.s.A r.gs.length r.s.c)], .int .i64 (sealE txs)]) (fun r => [rw_ 57 RTx r.s r.gs.length r.gs, lot (r.gs.flatMap txRow)]) (fun r => r.gs.map txK = if sealE txs = 0 then txs.map txK else []) := by
  have hst := St.start w0
  have i_txs := Rw.old htxs
  have j_txs := TxsR.old q_txs
  have j_K := KR.old hK
  have j_E := ER.old hE
  have eR0 : rootT txs = rootF (idsL txs) := rfl
  by_cases h1 : idsE txs = 0
  · have hm : ListMay txs := by
      unfold idsE at h1; split at h1
      · assumption
      · cases h1
    cases h2 : (rootT txs).2
    · have e1 : sealE txs = 5 := by unfold sealE; rw [if_neg (by simpa using h1), h2]; rfl
      have e2 : ¬ sealE txs = 0 := by omega
      rw [eR0] at h2
      simp only [pickL, pickI, if_neg e2]
      rw [e1]
      refine genter _ hst Tryd.func16 rfl rfl rfl rfl ?_
      repeat' (first
       | (refine z1 ?_; intros)
       | (refine z2 ?_ ?_ <;> first | exact zi | intro h | skip)
       | (refine kO ?_; refine zc ?_ ?_ <;> intros))
      · exact zr ⟨⟨none, 0⟩, [], nofun⟩ rfl (hL := er0 (elot0 Ent.nil))
      · rw [h2] at h; cases h
    · have e1 : sealE txs = 0 := by unfold sealE; rw [if_neg (by simpa using h1), h2]; rfl
      simp only [pickL, pickI, if_pos e1]
      rw [eR0] at h2 ⊢
      rw [e1]
      refine genter _ hst Tryd.func16 rfl rfl rfl rfl ?_
      repeat' (first
       | (refine z1 ?_; intros)
       | (refine z2 ?_ ?_ <;> first | exact zi | intro h | skip)
       | (refine kO ?_; refine zc ?_ ?_ <;> intros))
      · rw [h2] at h; cases h
      · rename_i r hr _ _ _
        exact zr ⟨r.s, r.gs, r.h⟩ hr
  · have e1 : sealE txs = idsE txs := if_pos h1
    have e2 : ¬ sealE txs = 0 := by omega
    simp only [pickL, pickI, if_neg e2]
    rw [e1]
    refine genter _ hst Tryd.func16 rfl rfl rfl rfl ?_
    repeat' (first
     | (refine z1 ?_; intros)
     | (refine z2 ?_ ?_ <;> first | exact zi | intro h | skip)
     | (refine kO ?_; refine zc ?_ ?_ <;> intros))
    exact zr ⟨⟨none, 0⟩, [], nofun⟩ rfl (hL := er0 (elot0 Ent.nil))
instance c_block_Seal {prev : List UInt8} [hprev : LenIs prev 32] {root : List UInt8} [hroot : LenIs root 32] {tm bits nonce : Int} {txsA : Option Addr} {txsc txsn : Nat} {txs : List TxG} {w0 : World} {X : Nat → Prop} {L : List Assn} [hK : KR w0 X L] [hE : ER w0 X L] [htxs : Rw w0 X L (.slice txsA txsn txsc) RTx txs] [q_txs : TxsR w0 X L txs] :
    Ctr Tryd.prog 16 [Ag [.blk 32 (RB.all prev), .blk 32 (RB.all root), .one (.int .u32 tm), .one (.int .u32 bits), .one (.int .u32 nonce), .one (.slice txsA txsn txsc)]] w0 X L True (fun r : TxsM => .tuple #[Ag [.blk 32 (RB.all (pickL (sealE txs = 0) prev)), .blk 32 (RB.all (pickL (sealE txs = 0) (rootT txs).1.l)), .one (.int .u32 (pickI (sealE txs = 0) tm)), .one (.int .u32 (pickI (sealE txs = 0) bits)), .one (.int .u32 (pickI (sealE txs = 0) nonce)), .one (.slice r.s.A r.gs.length r.s.c)], .int .i64 (sealE txs)]) (fun r => rw_ 57 RTx r.s r.gs.length r.gs :: lot (r.gs.flatMap txRow) :: L) (fun r => r.gs.map txK = if sealE txs = 0 then txs.map txK else []) :=
  ctr' (M' := fun r : TxsM => [rw_ 57 RTx r.s r.gs.length r.gs, lot (r.gs.flatMap txRow)]) (by kernel_rfl) (fun _ w hw => by have el := htxs.len hw; subst el; exact block_Seal _ _ _ _ _ _ _ _ w (hK.get w hw) (hE.get w hw) (htxs.get w hw) (q_txs.get w hw)) (by rintro _ ⟨s, gs, h⟩ hk ok; exact ⟨⟨s, gs, h⟩, rfl, rfl, hk⟩)
instance iDecInK : DecidableEq InK := inferInstanceAs (DecidableEq (List UInt8 × Int × Int × List UInt8))
instance iDecOutK : DecidableEq OutK := inferInstanceAs (DecidableEq (Int × List UInt8))
instance iDecTxK : DecidableEq TxK := inferInstanceAs (DecidableEq (List InK × List OutK × Int))
theorem txK_iff {a b : TxG} : txK a = txK b ↔ TxSame a.ins a.outs a.after b.ins b.outs b.after := by
  simp only [txK, Prod.mk.injEq]
  exact ⟨fun ⟨h1, h2, h3⟩ => ⟨h3, h1, h2⟩, fun ⟨h3, h1, h2⟩ => ⟨h1, h2, h3⟩⟩
theorem tx_EqTxs (aA : Option Addr) (ac : Nat) (a : List TxG) (bA : Option Addr) (bc : Nat) (b : List TxG) (w0 : World) (ha : Slr w0 RTx (.slice aA a.length ac) a) (q_a : TxsP w0 a) (hb : Slr w0 RTx (.slice bA b.length bc) b) (q_b : TxsP w0 b)  :
    Ct Tryd.prog 37 [.slice aA a.length ac, .slice bA b.length bc, (.func (.func 38) #[] #[])] w0 no (fun ((e0) : Bool) => .bool e0) (fun (e0) => []) (fun (e0) => e0 = decide (a.map txK = b.map txK)) := by
  have hst := St.start w0
  have i_a := Rw.old ha
  have j_a := TxsR.old q_a
  have i_b := Rw.old hb
  have j_b := TxsR.old q_b
  refine genter _ hst Tryd.func37 rfl rfl rfl rfl ?_
  have hcap := ha.cap
  have n1 := q_a.n
  have n2 := q_b.n
  repeat' (first
   | (refine z1 ?_; intros)
   | (refine z2 ?_ ?_ <;> first | exact zi | intro h | skip)
   | (refine kR ?_; refine zr (_) ?_)
   | (refine kO ?_; refine zc ?_ ?_ <;> intros))
  · have := len_ne (f := txK) (a := a) (b := b) (by omega)
    simp [this]
  · refine gloop [1, 2, 15, 16] (fun (i : Nat) K => (17, .int .i64 i) :: K) (fun i => []) (fun i => i ≤ a.length ∧ ∀ j, j < i → txK (ixd a (j : Int)) = txK (ixd b (j : Int))) (fun i => a.length - i) 0 rfl (by repeat (first | exact trivial | refine ⟨rfl, ?_⟩)) Ent.nil (by simp) (fun i hi => ?_)
    by_cases hlt : i < a.length
    · obtain ⟨_, x1, _⟩ := n1.at (i := i) (by omega)
      obtain ⟨_, x2, _⟩ := n2.at (i := i) (by omega)
      repeat' (first
       | (refine z1 ?_; intros)
       | (refine z2 ?_ ?_ <;> first | exact zi | intro h | skip)
       | (refine kR ?_; refine zr (_) ?_)
       | (refine kO ?_; refine zc ?_ ?_ <;> intros))
      · have := map_ixd_ne (f := txK) (a := a) (b := b) hlt (by omega) (fun e => h (txK_iff.1 e))
        simp [this]
      · refine gnl (i + 1) (by repeat (first | exact trivial | refine ⟨rfl, ?_⟩)) Ent.nil ⟨by omega, fun j hj => ?_⟩ (by omega)
        by_cases e : j = i
        · subst e; exact txK_iff.2 h
        · exact hi.2 j (by omega)
    · obtain rfl : i = a.length := by omega
      repeat' (first
       | (refine z1 ?_; intros)
       | (refine z2 ?_ ?_ <;> first | exact zi | intro h | skip)
       | (refine kR ?_; refine zr (_) ?_)
       | (refine kO ?_; refine zc ?_ ?_ <;> intros))
      have := map_ixd (f := txK) (a := a) (b := b) (by omega) fun j hj => hi.2 j hj
      simp [this]
instance c_tx_EqTxs {aA : Option Addr} {ac an : Nat} {a : List TxG} {bA : Option Addr} {bc bn : Nat} {b : List TxG} {w0 : World} {X : Nat → Prop} {L : List Assn} [ha : Rw w0 X L (.slice aA an ac) RTx a] [q_a : TxsR w0 X L a] [hb : Rw w0 X L (.slice bA bn bc) RTx b] [q_b : TxsR w0 X L b] : Ctr Tryd.prog 37 [.slice aA an ac, .slice bA bn bc, (.func (.func 38) #[] #[])] w0 X L (True) (fun _ : Unit => .bool (decide (a.map txK = b.map txK))) (fun _ : Unit => L) (fun _ : Unit => True) :=
  ctr' (M' := (fun _ : Unit => [])) (by kernel_rfl) (fun hp w hw => by have ea := ha.len hw; subst ea; have eb := hb.len hw; subst eb; exact tx_EqTxs _ _ _ _ _ _ w (ha.get w hw) (q_a.get w hw) (hb.get w hw) (q_b.get w hw)) (by rintro hp e0 rfl ok; exact ⟨(), rfl, rfl, trivial⟩)
instance iKVHead {p r : List UInt8} {t b n : Int} [h1 : LenIs p 32] [h2 : LenIs r 32] : KVc Tryd.prog 33 [.blk 32 (RB.all p), .blk 32 (RB.all r), .one (.int .u32 t), .one (.int .u32 b), .one (.int .u32 n)] ((0 ≤ t ∧ t ≤ 4294967295) ∧ (0 ≤ b ∧ b ≤ 4294967295) ∧ (0 ≤ n ∧ n ≤ 4294967295)) := ⟨fun hp =>
  kv_struct 4 (by kernel_rfl) (specs := [(30, 0, 32), (30, 32, 32), (31, 64, 1), (31, 65, 1), (31, 66, 1)]) (by kernel_rfl) (by kernel_rfl) OkS.blk.h.1 ⟨⟨_, rfl, KVc.h trivial⟩, ⟨_, rfl, KVc.h trivial⟩, ⟨_, rfl, KV.int (by kernel_rfl) (litwf ⟨hp.1.1, hp.1.2⟩)⟩, ⟨_, rfl, KV.int (by kernel_rfl) (litwf ⟨hp.2.1.1, hp.2.1.2⟩)⟩, ⟨_, rfl, KV.int (by kernel_rfl) (litwf ⟨hp.2.2.1, hp.2.2.2⟩)⟩, trivial⟩⟩
@[reducible] def BkSame (p r : List UInt8) (t b n : Int) (ts : List TxG) (p' r' : List UInt8) (t' b' n' : Int) (ts' : List TxG) : Prop := (p = p' ∧ r = r' ∧ t = t' ∧ b = b' ∧ n = n') ∧ ts.map txK = ts'.map txK
theorem block_Same (p : List UInt8) [hp : LenIs p 32] (r : List UInt8) [hr : LenIs r 32] (t : Int) (b : Int) (n : Int) (tsA : Option Addr) (tsc : Nat) (ts : List TxG) (p' : List UInt8) [hp' : LenIs p' 32] (r' : List UInt8) [hr' : LenIs r' 32] (t' : Int) (b' : Int) (n' : Int) (ts'A : Option Addr) (ts'c : Nat) (ts' : List TxG) (w0 : World) (hts : Slr w0 RTx (.slice tsA ts.length tsc) ts) (q_ts : TxsP w0 ts) (hts' : Slr w0 RTx (.slice ts'A ts'.length ts'c) ts') (q_ts' : TxsP w0 ts') (hp : HdN t b n ∧ HdN t' b' n') :
    Ct Tryd.prog 19 [Ag [.blk 32 (RB.all p), .blk 32 (RB.all r), .one (.int .u32 t), .one (.int .u32 b), .one (.int .u32 n), .one (.slice tsA ts.length tsc)], Ag [.blk 32 (RB.all p'), .blk 32 (RB.all r'), .one (.int .u32 t'), .one (.int .u32 b'), .one (.int .u32 n'), .one (.slice ts'A ts'.length ts'c)]] w0 no (fun ((e0) : Bool) => .bool e0) (fun (e0) => []) (fun (e0) => e0 = decide (BkSame p r t b n ts p' r' t' b' n' ts')) := by
  have hst := St.start w0
  have i_ts := Rw.old hts
  have j_ts := TxsR.old q_ts
  have i_ts' := Rw.old hts'
  have j_ts' := TxsR.old q_ts'
  refine genter _ hst Tryd.func19 rfl rfl rfl rfl ?_
  obtain ⟨⟨x1, x2, x3⟩, ⟨y1, y2, y3⟩⟩ := hp
  repeat' (first
   | (refine z1 ?_; intros)
   | (refine z2 ?_ ?_ <;> first | exact zi | intro h | skip)
   | (refine kR ?_; refine zr (_) ?_)
   | (refine kO ?_; refine zc ?_ ?_ <;> intros))
  · rename p = p' ∧ _ => hh
    exact decide_eq_decide.2 ⟨fun e => ⟨⟨hh.1, hh.2.1, hh.2.2.1, hh.2.2.2.1, hh.2.2.2.2.1⟩, e⟩, fun e => e.2⟩
  · rename ¬ (p = p' ∧ _) => hh
    exact (decide_eq_false fun e => hh ⟨e.1.1, e.1.2.1, e.1.2.2.1, e.1.2.2.2.1, e.1.2.2.2.2, trivial⟩).symm
instance c_block_Same {p : List UInt8} {r : List UInt8} {t : Int} {b : Int} {n : Int} {tsA : Option Addr} {tsc tsn : Nat} {ts : List TxG} {p' : List UInt8} {r' : List UInt8} {t' : Int} {b' : Int} {n' : Int} {ts'A : Option Addr} {ts'c ts'n : Nat} {ts' : List TxG} {w0 : World} {X : Nat → Prop} {L : List Assn} [hp : LenIs p 32] [hr : LenIs r 32] [hts : Rw w0 X L (.slice tsA tsn tsc) RTx ts] [q_ts : TxsR w0 X L ts] [hp' : LenIs p' 32] [hr' : LenIs r' 32] [hts' : Rw w0 X L (.slice ts'A ts'n ts'c) RTx ts'] [q_ts' : TxsR w0 X L ts'] : Ctr Tryd.prog 19 [Ag [.blk 32 (RB.all p), .blk 32 (RB.all r), .one (.int .u32 t), .one (.int .u32 b), .one (.int .u32 n), .one (.slice tsA tsn tsc)], Ag [.blk 32 (RB.all p'), .blk 32 (RB.all r'), .one (.int .u32 t'), .one (.int .u32 b'), .one (.int .u32 n'), .one (.slice ts'A ts'n ts'c)]] w0 X L (HdN t b n ∧ HdN t' b' n') (fun _ : Unit => .bool (decide (BkSame p r t b n ts p' r' t' b' n' ts'))) (fun _ : Unit => L) (fun _ : Unit => True) :=
  ctr' (M' := (fun _ : Unit => [])) (by kernel_rfl) (fun hp w hw => by have ets := hts.len hw; subst ets; have ets' := hts'.len hw; subst ets'; exact block_Same _ _ _ _ _ _ _ _ _ _ _ _ _ _ _ _ w (hts.get w hw) (q_ts.get w hw) (hts'.get w hw) (q_ts'.get w hw) hp) (by rintro hp e0 rfl ok; exact ⟨(), rfl, rfl, trivial⟩)
end Go.Proofs.YtalainpmlonahaaDoor
