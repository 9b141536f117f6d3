/-
  Blocks: rows of transactions, rows of hashes; the errors of layer 10.
-/
import Derived.Test.YtalainpmlonahaaDoorAu
import Derived.Test.YtalainpmlonahaaDoorBp
import Derived.Test.YtalainpmlonahaaDoorVtxId
set_option linter.all false
set_option maxRecDepth 100000
set_option maxHeartbeats 4000000
namespace Go.Proofs.YtalainpmlonahaaDoor
open Go.RowKit

/-! rows of transactions -/
instance ib_1 : Inhabited TxG := ⟨⟨⟨none, 0⟩, [], ⟨none, 0⟩, [], 0⟩⟩
def RTx : Rep TxG := ⟨3, TxG.sg, by decide, fun _ => ⟨trivial, rfl, rfl⟩⟩
instance ib_2 : SzIs RTx 3 := ⟨rfl⟩
instance ib_3 {si so : Sv} {i : List InG} {o : List OutG} {a : Int} : Elm RTx (.agg (flat [.one (.slice si.A i.length si.c), .one (.slice so.A o.length so.c), .one (.int .u32 a)]).toArray) ⟨si, i, so, o, a⟩ := ⟨by simp [Value.cells, RTx, TxG.sg]⟩
instance ib_4 : EL Tryd.prog 57 3 56 := ⟨by
  obtain ⟨i, h1, h2, h3, h4⟩ := info_parts (show (Tryd.prog.info? 57).map (fun i => (i.zero, i.size, i.bytes)) = some (some (.agg (flat (RTx.sg default)).toArray), 3, 56) by kernel_rfl)
  exact ⟨i, _, h1, h2, h3, h4, rfl, by decide⟩⟩
instance ib_5 : ZE Tryd.prog 57 RTx default := ⟨by kernel_rfl, by kernel_rfl⟩
instance ib_6 : ZS Tryd.prog 33 [.blk 32 (RB.all (List.replicate 32 0)), .blk 32 (RB.all (List.replicate 32 0)), .one (.int .u32 0), .one (.int .u32 0), .one (.int .u32 0)] := ⟨by kernel_rfl, OkS.blk.h.1⟩
instance ib_7 : ZS Tryd.prog 36 [.blk 32 (RB.all (List.replicate 32 0)), .blk 32 (RB.all (List.replicate 32 0)), .one (.int .u32 0), .one (.int .u32 0), .one (.int .u32 0), .one (.slice none 0 0)] := ⟨by kernel_rfl, OkS.blk.h.1⟩
def TxsP (w : World) (gs : List TxG) : Prop := ∀ g ∈ gs, TxG.P w g
class TxsR (w0 : World) (X : Nat → Prop) (L : List Assn) (gs : List TxG) : Prop where
  get : ∀ w, St w0 X L w → TxsP w gs
@[reducible] def TxgN (g : TxG) : Prop := (0 ≤ g.after ∧ g.after ≤ 4294967295) ∧ InsN g.ins ∧ OutsN g.outs
@[reducible] def TxsN (gs : List TxG) : Prop := ∀ g ∈ gs, TxgN g
class TxsNc (gs : List TxG) : Prop where
  h : TxsN gs
def txRow (g : TxG) : List Assn := rw_ 74 RIn g.si g.ins.length g.ins :: rw_ 52 ROut g.so g.outs.length g.outs :: (g.ins.map inRow ++ g.outs.map outRow)
theorem TxsN.at {gs : List TxG} (h : TxsN gs) {i : Int} (hi : 0 ≤ i ∧ i < gs.length) : TxgN (ixd gs i) := by
  rw [ixd_eq (by omega)]; exact h _ (List.getElem_mem _)
theorem TxsP.n {w : World} {gs : List TxG} (h : TxsP w gs) : TxsN gs := fun g hg => ⟨(h g hg).a, fun x hx => ((h g hg).ip x hx).1, fun x hx => ((h g hg).op x hx).1⟩
section
variable {w0 : World} {X : Nat → Prop} {L : List Assn}
theorem TxsR.old {gs : List TxG} (h : TxsP w0 gs) (L : List Assn) : TxsR w0 no L gs := ⟨fun w hst g hg => ⟨hst.sl (h g hg).i, fun x hx => ⟨((h g hg).ip x hx).1, hst.sl ((h g hg).ip x hx).2⟩, hst.sl (h g hg).o, fun x hx => ⟨((h g hg).op x hx).1, hst.sl ((h g hg).op x hx).2⟩, (h g hg).a⟩⟩
instance TxsR.nil : TxsR w0 X L [] := ⟨fun _ _ _ h => by cases h⟩
instance TxsNc.nil : TxsNc [] := ⟨fun _ h => by cases h⟩
theorem Slr.of_lotM {w : World} {l : List Assn} {G : Type} {e : TypeId} {R : Rep G} {s : Sv} {gs : List G} (h : FLot L l) (hm : rw_ e R s gs.length gs ∈ l) (hw : St w0 X L w) : Slr w R (.slice s.A gs.length s.c) gs := Slr.of_lot h hm hw
instance TxsR.lot {gs : List TxG} [h : FLot L (gs.flatMap txRow)] [hn : TxsNc gs] : TxsR w0 X L gs := ⟨fun w hw g hg => by
  have hN := hn.h g hg
  have hm : ∀ A, A ∈ txRow g → A ∈ gs.flatMap txRow := fun A hA => List.mem_flatMap.2 ⟨g, hg, hA⟩
  refine ⟨Slr.of_lotM (e := 74) h (hm _ (by simp [txRow])) hw, fun x hx => ⟨hN.2.1 x hx, Slr.of_lotM h (hm (inRow x) ?_) hw⟩, Slr.of_lotM (e := 52) h (hm _ (by simp [txRow])) hw, fun x hx => ⟨hN.2.2 x hx, Slr.of_lotM h (hm (outRow x) ?_) hw⟩, hN.1⟩
  · exact List.mem_cons_of_mem _ (List.mem_cons_of_mem _ (List.mem_append.2 (.inl (List.mem_map.2 ⟨x, hx, rfl⟩))))
  · exact List.mem_cons_of_mem _ (List.mem_cons_of_mem _ (List.mem_append.2 (.inr (List.mem_map.2 ⟨x, hx, rfl⟩))))⟩
instance Rw.txi {gs : List TxG} {i : Int} [h : TxsR w0 X L gs] [hi : Ix i gs.length] : Rw w0 X L (.slice (ixd gs i).si.A (ixd gs i).ins.length (ixd gs i).si.c) RIn (ixd gs i).ins := ⟨fun w hw => (h.get w hw _ (ixd_mem hi rfl)).i⟩
instance Rw.txo {gs : List TxG} {i : Int} [h : TxsR w0 X L gs] [hi : Ix i gs.length] : Rw w0 X L (.slice (ixd gs i).so.A (ixd gs i).outs.length (ixd gs i).so.c) ROut (ixd gs i).outs := ⟨fun w hw => (h.get w hw _ (ixd_mem hi rfl)).o⟩
instance InsR.tx {gs : List TxG} {i : Int} [h : TxsR w0 X L gs] [hi : Ix i gs.length] : InsR w0 X L (ixd gs i).ins := ⟨fun w hw => (h.get w hw _ (ixd_mem hi rfl)).ip⟩
instance OutsR.tx {gs : List TxG} {i : Int} [h : TxsR w0 X L gs] [hi : Ix i gs.length] : OutsR w0 X L (ixd gs i).outs := ⟨fun w hw => (h.get w hw _ (ixd_mem hi rfl)).op⟩
theorem lot_cat {l m M : List Assn} {h : Hp} (hb : big (lot l :: lot m :: M) h) : big (lot (l ++ m) :: M) h := by
  obtain ⟨a0, r0, d0, rfl, ⟨b0⟩, a1, r1, d1, rfl, ⟨b1⟩, hb⟩ := hb
  have d2 := hdis_hun.1 d0.symm
  exact ⟨hun a0 a1, r1, hdis_hun.2 ⟨d2.2.symm, d1⟩, (hun_assoc _ _ _).symm, ⟨big_append ⟨a0, a1, d2.1.symm, rfl, b0, b1⟩⟩, hb⟩
theorem lot_snoc {l M : List Assn} {A : Assn} {h : Hp} (hb : big (lot l :: A :: M) h) : big (lot (l ++ [A]) :: M) h := by
  obtain ⟨a0, r0, d0, rfl, b0, a1, r1, d1, rfl, b1, hb⟩ := hb
  exact lot_cat ⟨a0, _, d0, rfl, b0, a1, r1, d1, rfl, ⟨⟨a1, hemp, fun b => .inr rfl, by funext b; simp [hun, hemp], b1, trivial⟩⟩, hb⟩
/-- a transaction of the call's own goes into the lot -/
theorem elotT {L1 L2 L3 L4 L5 M l : List Assn} {g : TxG} [h : FLot L l] [h0 : Pk L (lot l) L1] [h1 : Pk L1 (rw_ 74 RIn g.si g.ins.length g.ins) L2] [h2 : Pk L2 (rw_ 52 ROut g.so g.outs.length g.outs) L3] [h3 : Pk L3 (Go.Proofs.YtalainpmlonahaaDoor.lot (g.ins.map inRow)) L4] [h4 : Pk L4 (Go.Proofs.YtalainpmlonahaaDoor.lot (g.outs.map outRow)) L5] (k : Ent L5 M) : Ent L (Go.Proofs.YtalainpmlonahaaDoor.lot (l ++ txRow g) :: M) := ⟨fun w0 X w hs => by
  have e1 : Ent L (lot l :: rw_ 74 RIn g.si g.ins.length g.ins :: rw_ 52 ROut g.so g.outs.length g.outs :: lot (g.ins.map inRow) :: lot (g.outs.map outRow) :: M) := Ent.cons (h' := Ent.cons (h' := Ent.cons (h' := Ent.cons (h' := Ent.cons (h' := k)))))
  have s := e1.go _ _ _ hs
  obtain ⟨hp, hb, hsub, hX⟩ := s.res
  have c := lot_cat (lot_cat (lot_snoc (lot_snoc hb)))
  have e2 : l ++ [rw_ 74 RIn g.si g.ins.length g.ins] ++ [rw_ 52 ROut g.so g.outs.length g.outs] ++ g.ins.map inRow ++ g.outs.map outRow = l ++ txRow g := by simp [txRow]
  rw [e2] at c
  exact ⟨s.os, s.tape, s.output, s.size, s.keep, hp, c, hsub, hX⟩⟩
end
/-! errors -/
inductive Er where
  | nil
  | no (n : Int)
  | wr (i n : Int)
  deriving DecidableEq
def Er.val : Er → Value
  | .nil => .nilIface
  | .no n => .iface 37 (.int .i64 n)
  | .wr i n => .iface 94 (.agg #[.int .i64 i, .int .i64 n])
def Er.num : Er → Int
  | .nil => 0
  | .no n => n
  | .wr _ n => n
section
variable {P : Program} {n : Nat} {w0 : World} {X : Nat → Prop} {Q : Cont} {E : Env} {L : List Assn} {s : Ms} {ops : Array Oper} {rest : List Oper}
variable {d : Nat} {ty : TypeId} {pos : String} {aft : Array Edge}
theorem gneE {x : Operand} {e : Er} {t yt : TypeId} (hx : eev E x = some (Er.val e)) (ht : P.underlying t = some (.interface (P.methodsAt t))) (hd : Nat.blt d n = true)
    (k : GO P n w0 X (nextM s) ops rest Q ((d, .bool (decide (e ≠ .nil))) :: E) L) : GO P n w0 X s ops (⟨some d, .binOp .neq t x (.const .nilIface) yt, ty, pos, aft, none⟩ :: rest) Q E L :=
  go_yld rfl (fun _ _ => y_bin2 hx rfl (fun w => by
    cases e with
    | nil =>
      show (eqGuard .neq t x (.const .nilIface) .nilIface .nilIface).run P w = .ok () w
      simp [eqGuard]
    | no m => rfl
    | wr i m => rfl) (fun w => by
    cases e with
    | nil => exact run_neq_nil_nil w t ht
    | no m => exact run_neq_held_nil w t _ _ ht
    | wr i m => exact run_neq_held_nil w t _ _ ht)) hd k
end
instance c_number {w0 : World} {X : Nat → Prop} {L : List Assn} {e : Er} [hE : ER w0 X L] : Ctr Tryd.prog 24 [Er.val e] w0 X L True (fun _ : Unit => .int .i64 e.num) (fun _ => L) (fun _ => True) := by
  cases e with
  | nil => exact c_block_number_0
  | no m => exact c_block_number_e
  | wr i m => exact c_block_number_w
/-! what is made of all transactions -/
def TxG.e (g : TxG) : Int := txE g.ins g.outs g.after
def TxG.b (g : TxG) : List UInt8 := txL g.ins g.outs g.after
def TxG.id (g : TxG) : Hsh := idH g.ins g.outs g.after
def eachF : List TxG → Int → Er
  | [], _ => .nil
  | g :: r, k => if g.e ≠ 0 then .wr k g.e else eachF r (k + 1)
def eachE (gs : List TxG) : Er := if gs.length = 0 ∨ 16 < gs.length then .no 2 else eachF gs 0
theorem TxG.e02 (g : TxG) : g.e = 0 ∨ g.e = 2 := by unfold TxG.e txE; split <;> simp
theorem eachF_num : ∀ (gs : List TxG) (k : Int), eachF gs k ≠ .nil → (eachF gs k).num = 2
  | [], _, h => absurd rfl h
  | g :: r, k, h => by
    unfold eachF at h ⊢
    split
    · rename_i h1; exact g.e02.resolve_left h1
    · rename_i h1; rw [if_neg h1] at h; exact eachF_num r _ h
theorem eachF_nil : ∀ (gs : List TxG) (k : Int), eachF gs k = .nil ↔ ∀ g ∈ gs, g.e = 0
  | [], _ => by simp [eachF]
  | g :: r, k => by
    unfold eachF
    split
    · rename_i h1; simp [h1]
    · rename_i h1
      simp only [ne_eq, Decidable.not_not] at h1
      rw [eachF_nil r]; simp [h1]
/-- may a block's transactions be? -/
def ListMay (gs : List TxG) : Prop := (1 ≤ gs.length ∧ gs.length ≤ 16) ∧ ∀ g ∈ gs, g.e = 0
instance ib_8 {gs : List TxG} : Decidable (ListMay gs) := inferInstanceAs (Decidable (_ ∧ _))
theorem eachE_nil (gs : List TxG) : eachE gs = .nil ↔ ListMay gs := by
  unfold eachE ListMay
  split
  · rename_i h
    constructor
    · intro h2; cases h2
    · intro h2; omega
  · rename_i h
    rw [eachF_nil]
    constructor
    · intro h2; exact ⟨by omega, h2⟩
    · intro h2; exact h2.2
theorem eachE_num (gs : List TxG) : (eachE gs).num = if ListMay gs then 0 else 2 := by
  split
  · rename_i h; rw [(eachE_nil gs).2 h]; rfl
  · rename_i h
    have hn : eachE gs ≠ .nil := fun e => h ((eachE_nil gs).1 e)
    unfold eachE at hn ⊢
    split
    · rfl
    · rename_i h1; rw [if_neg h1] at hn; exact eachF_num _ _ hn
end Go.Proofs.YtalainpmlonahaaDoor
