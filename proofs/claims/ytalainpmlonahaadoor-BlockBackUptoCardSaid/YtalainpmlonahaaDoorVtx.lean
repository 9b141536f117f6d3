/-
  tx: contracts.
-/
import Derived.Test.YtalainpmlonahaaDoorVcoin
import Derived.Test.YtalainpmlonahaaDoorVlib
import Derived.Test.YtalainpmlonahaaDoorVtxP
set_option linter.all false
set_option maxRecDepth 100000
set_option maxHeartbeats 4000000
namespace Go.Proofs.YtalainpmlonahaaDoor
open Go.RowKit

theorem tx_written (insA : Option Addr) (insc : Nat) (ins : List InG) (outsA : Option Addr) (outsc : Nat) (outs : List OutG) (after : Int) (w0 : World) (hins : Slr w0 RIn (.slice insA ins.length insc) ins) (q_ins : InsP w0 ins) (houts : Slr w0 ROut (.slice outsA outs.length outsc) outs) (q_outs : OutsP w0 outs) (hp : (ins.length ≤ 16 ∧ outs.length ≤ 16 ∧ 0 ≤ after ∧ after ≤ 4294967295) ∧ InsOk ins ∧ InsN ins ∧ OutsN outs) :
    Ct Tryd.prog 59 [Ag [.one (.slice insA ins.length insc), .one (.slice outsA outs.length outsc), .one (.int .u32 after)]] w0 no (fun ((⟨s0, n0, x0⟩) : Br UInt8) => .slice s0.A n0 s0.c) (fun (⟨s0, n0, x0⟩) => [rw_ 5 RB s0 n0 x0]) (fun (⟨s0, n0, x0⟩) => x0 = (if OutsOk outs then txB ins outs after else []) ∧ (¬ OutsOk outs → s0.A = none)) := by
  have hst := St.start w0
  have i_ins := Rw.old hins
  have j_ins := InsR.old q_ins
  have i_outs := Rw.old houts
  have j_outs := OutsR.old q_outs
  refine genter _ hst Tryd.func59 rfl rfl rfl rfl ?_
  obtain ⟨hp1, hp2, hn1, hn2⟩ := hp
  repeat' (first
   | (refine z1 ?_; intros)
   | (refine z2 ?_ ?_ <;> first | exact zi | intro h | skip)
   | (refine kR ?_; refine zr (⟨⟨_, _⟩, _, _⟩) ?_)
   | (refine kO ?_; refine zc ?_ ?_ <;> intros))
  rename_i g _ s _ _
  refine gloop3 [1, 18, 19] (fun (i : Nat) (s : Sv) (n : Nat) K => (3, .slice s.A n s.c) :: (20, .int .i64 i) :: K) (fun i s n => [rw_ 5 RB s n (countS ins.length ++ insB (ins.take i)), boxA g 57 [.one (.slice insA ins.length insc), .one (.slice outsA outs.length outsc), .one (.int .u32 after)]]) (fun i s n => i ≤ ins.length ∧ n = (countS ins.length).length + (insB (ins.take i)).length) (fun i s n => ins.length - i) 0 s _ rfl (by repeat (first | exact trivial | refine ⟨rfl, ?_⟩)) (by simp only [insB, List.take_zero, List.flatMap_nil, List.append_nil]; exact er (eb Ent.nil)) (by simp [insB]) (fun i s n hi => ?_)
  have hl := insB_len hp2 hn1 i (by omega)
  have hc := countS_b ins.length
  by_cases hlt : i < ins.length
  · have hg := hn1 (ixd ins i) (ixd_mem ⟨by omega⟩ rfl)
    have hu := hp2 (ixd ins i) (ixd_mem ⟨by omega⟩ rfl)
    repeat' (first
     | (refine z1 ?_; intros)
     | (refine z2 ?_ ?_ <;> first | exact zi | intro h | skip)
     | (refine kR ?_; refine zr (⟨⟨_, _⟩, _, _⟩) ?_)
     | (refine kO ?_; refine zc ?_ ?_ <;> intros))
    rename_i s'
    refine gnl3 (i + 1) s' _ (by repeat (first | exact trivial | refine ⟨rfl, ?_⟩)) ?_ ?_ (by omega)
    · rw [insB_step hlt]; simp only [← List.append_assoc]; exact er (eb Ent.nil)
    · rw [insB_step hlt]; simp only [List.length_append]; omega
  · obtain rfl : i = ins.length := by omega
    rw [List.take_length] at hi hl ⊢
    repeat' (first
     | (refine z1 ?_; intros)
     | (refine z2 ?_ ?_ <;> first | exact zi | intro h | skip)
     | (refine kR ?_; refine zr (⟨⟨_, _⟩, _, _⟩) ?_)
     | (refine kO ?_; refine zc ?_ ?_ <;> intros))
    rename_i s _
    refine gloop3 [1, 43, 44] (fun (i : Nat) (s : Sv) (n : Nat) K => (3, .slice s.A n s.c) :: (45, .int .i64 i) :: K) (fun i s n => [rw_ 5 RB s n (countS ins.length ++ insB ins ++ countS outs.length ++ outsB (outs.take i)), boxA g 57 [.one (.slice insA ins.length insc), .one (.slice outsA outs.length outsc), .one (.int .u32 after)]]) (fun i s n => (i ≤ outs.length ∧ n = (countS ins.length).length + (insB ins).length + (countS outs.length).length + (outsB (outs.take i)).length) ∧ OutsOk (outs.take i)) (fun i s n => outs.length - i) 0 s _ rfl (by repeat (first | exact trivial | refine ⟨rfl, ?_⟩)) (by simp only [outsB, List.take_zero, List.flatMap_nil, List.append_nil]; exact er (eb Ent.nil)) ⟨by simp [outsB]; omega, by simp [OutsOk]⟩ (fun i s n hi => ?_)
    obtain ⟨hi, hok⟩ := hi
    have hl2 := outsB_len' hok hn2 (by omega)
    by_cases hlt : i < outs.length
    · have hg := hn2 (ixd outs i) (ixd_mem ⟨by omega⟩ rfl)
      have ho := OutsOk_step hok hlt
      have hm : ixd outs (i : Int) ∈ outs := ixd_mem (n := outs.length) ⟨by omega⟩ rfl
      repeat' (first
       | (refine z1 ?_; intros)
       | (refine z2 ?_ ?_ <;> first | exact zi | intro h | skip)
       | (refine kR ?_; refine zr (⟨⟨_, _⟩, _, _⟩) ?_)
       | (refine kO ?_; refine zc ?_ ?_ <;> intros))
      · have hno : ¬ OutsOk outs := fun hh => by have := outE_0.2 (hh _ hm); omega
        simp only [if_neg hno]; exact ⟨trivial, fun _ => trivial⟩
      · rename_i s'
        refine gnl3 (i + 1) s' _ (by repeat (first | exact trivial | refine ⟨rfl, ?_⟩)) ?_ ⟨?_, ho (outE_0.1 (by assumption))⟩ (by omega)
        · rw [outsB_step hlt]; simp only [← List.append_assoc]; exact er (eb Ent.nil)
        · rw [outsB_step hlt]; simp only [List.length_append]; omega
    · obtain rfl : i = outs.length := by omega
      rw [List.take_length] at hi hl2 hok ⊢
      have hq := putL_len (n := after) (k := 4) ⟨by omega, by omega⟩
      repeat' (first
       | (refine z1 ?_; intros)
       | (refine z2 ?_ ?_ <;> first | exact zi | intro h | skip)
       | (refine kR ?_; refine zr (⟨⟨_, _⟩, _, _⟩) ?_)
       | (refine kO ?_; refine zc ?_ ?_ <;> intros))
      simp only [if_pos hok]; exact ⟨rfl, fun hh => absurd hok hh⟩
instance c_tx_written {insA : Option Addr} {insc insn : Nat} {ins : List InG} {outsA : Option Addr} {outsc outsn : Nat} {outs : List OutG} {after : Int} {w0 : World} {X : Nat → Prop} {L : List Assn} [hins : Rw w0 X L (.slice insA insn insc) RIn ins] [q_ins : InsR w0 X L ins] [houts : Rw w0 X L (.slice outsA outsn outsc) ROut outs] [q_outs : OutsR w0 X L outs] : Ctr Tryd.prog 59 [Ag [.one (.slice insA insn insc), .one (.slice outsA outsn outsc), .one (.int .u32 after)]] w0 X L ((ins.length ≤ 16 ∧ outs.length ≤ 16 ∧ 0 ≤ after ∧ after ≤ 4294967295) ∧ InsOk ins ∧ InsN ins ∧ OutsN outs) (fun s0 : Sv => .slice s0.A (if OutsOk outs then txB ins outs after else []).length s0.c) (fun s0 : Sv => rw_ 5 RB s0 (if OutsOk outs then txB ins outs after else []).length (if OutsOk outs then txB ins outs after else []) :: L) (fun s0 : Sv => (OutsOk outs → 6 ≤ (txB ins outs after).length) ∧ (¬ OutsOk outs → s0.A = none) ∧ (0 < (if OutsOk outs then txB ins outs after else []).length → s0.A.isNone = false)) :=
  ctr' (M' := (fun s0 : Sv => [rw_ 5 RB s0 (if OutsOk outs then txB ins outs after else []).length (if OutsOk outs then txB ins outs after else [])])) (by kernel_rfl) (fun hp w hw => by have eins := hins.len hw; subst eins; have eouts := houts.len hw; subst eouts; exact tx_written _ _ _ _ _ _ _ w (hins.get w hw) (q_ins.get w hw) (houts.get w hw) (q_outs.get w hw) hp) (by rintro hp ⟨s0, n0, x0⟩ ⟨rfl, c0⟩ ok; cases ok.row; exact ⟨s0, rfl, rfl, ⟨fun h => (txB_len hp.2.1 h hp.2.2.1 hp.2.2.2 hp.1).1, ⟨fun h => c0 h, fun h => ok.some h⟩⟩⟩)
theorem tx_Put1 (tx : List UInt8) [htx : LenIs tx 32] (n : Int) (ht : Int) (ulA : Option Addr) (ulc : Nat) (ul : List UInt8) (w0 : World) (hul : Slr w0 RB (.slice ulA ul.length ulc) ul)  :
    Ct Tryd.prog 57 [Ag [.blk 32 (RB.all tx), .one (.int .u16 n), .one (.int .u32 ht), .one (.slice ulA ul.length ulc)]] w0 no (fun ((e0) : Bool) => .bool e0) (fun (e0) => []) (fun (e0) => e0 = decide (3000 < ul.length)) := by
  have hst := St.start w0
  have i_ul := Rw.old hul
  refine genter _ hst Tryd.func57 rfl rfl rfl rfl ?_
  repeat' (first
   | (refine z1 ?_; intros)
   | (refine z2 ?_ ?_ <;> first | exact zi | intro h | skip)
   | (refine kR ?_; refine zr (_) ?_)
   | (refine kO ?_; refine zc ?_ ?_ <;> intros))
  all_goals grind
instance c_tx_Put1 {tx : List UInt8} {n : Int} {ht : Int} {ulA : Option Addr} {ulc uln : Nat} {ul : List UInt8} {w0 : World} {X : Nat → Prop} {L : List Assn} [htx : LenIs tx 32] [hul : Rw w0 X L (.slice ulA uln ulc) RB ul] : Ctr Tryd.prog 57 [Ag [.blk 32 (RB.all tx), .one (.int .u16 n), .one (.int .u32 ht), .one (.slice ulA uln ulc)]] w0 X L (True) (fun _ : Unit => .bool (decide (3000 < ul.length))) (fun _ : Unit => L) (fun _ : Unit => True) :=
  ctr' (M' := (fun _ : Unit => [])) (by kernel_rfl) (fun hp w hw => by have eul := hul.len hw; subst eul; exact tx_Put1 _ _ _ _ _ _ w (hul.get w hw)) (by rintro hp e0 rfl ok; exact ⟨(), rfl, rfl, trivial⟩)
theorem tx_IndexFunc (insA : Option Addr) (insc : Nat) (ins : List InG) (w0 : World) (hins : Slr w0 RIn (.slice insA ins.length insc) ins) (q_ins : InsP w0 ins) (hp : ins.length ≤ 140737488351232) :
    Ct Tryd.prog 85 [.slice insA ins.length insc, (.func (.func 57) #[] #[])] w0 no (fun ((e0) : Int) => .int .i64 e0) (fun (e0) => []) (fun (e0) => e0 = firstLong ins 0) := by
  have hst := St.start w0
  have i_ins := Rw.old hins
  have j_ins := InsR.old q_ins
  refine genter _ hst Tryd.func85 rfl rfl rfl rfl ?_
  repeat' (first
   | (refine z1 ?_; intros)
   | (refine z2 ?_ ?_ <;> first | exact zi | intro h | skip)
   | (refine kR ?_; refine zr (_) ?_)
   | (refine kO ?_; refine zc ?_ ?_ <;> intros))
  refine gloop [0, 1, 7] (fun (i : Nat) K => (8, .int .i64 i) :: K) (fun i => []) (fun i => i ≤ ins.length ∧ firstLong ins 0 = firstLong (ins.drop i) i) (fun i => ins.length - i) 0 rfl (by repeat (first | exact trivial | refine ⟨rfl, ?_⟩)) Ent.nil (by simp) (fun i hi => ?_)
  by_cases hlt : i < ins.length
  · have hd := hi.2
    rw [drop_ixd hlt, firstLong_cons] at hd
    repeat' (first
     | (refine z1 ?_; intros)
     | (refine z2 ?_ ?_ <;> first | exact zi | intro h | skip)
     | (refine kR ?_; refine zr (_) ?_)
     | (refine kO ?_; refine zc ?_ ?_ <;> intros))
    · rw [hd, if_pos (by omega)]
    · exact gnl (i + 1) (by repeat (first | exact trivial | refine ⟨rfl, ?_⟩)) Ent.nil ⟨by omega, by rw [hd, if_neg (by omega)]; congr 1⟩ (by omega)
  · obtain rfl : i = ins.length := by omega
    repeat' (first
     | (refine z1 ?_; intros)
     | (refine z2 ?_ ?_ <;> first | exact zi | intro h | skip)
     | (refine kR ?_; refine zr (_) ?_)
     | (refine kO ?_; refine zc ?_ ?_ <;> intros))
    rw [hi.2, List.drop_length]; rfl
instance c_tx_IndexFunc {insA : Option Addr} {insc insn : Nat} {ins : List InG} {w0 : World} {X : Nat → Prop} {L : List Assn} [hins : Rw w0 X L (.slice insA insn insc) RIn ins] [q_ins : InsR w0 X L ins] : Ctr Tryd.prog 85 [.slice insA insn insc, (.func (.func 57) #[] #[])] w0 X L (ins.length ≤ 140737488351232) (fun _ : Unit => .int .i64 (firstLong ins 0)) (fun _ : Unit => L) (fun _ : Unit => (0 ≤ firstLong ins 0 ↔ ¬ InsOk ins)) :=
  ctr' (M' := (fun _ : Unit => [])) (by kernel_rfl) (fun hp w hw => by have eins := hins.len hw; subst eins; exact tx_IndexFunc _ _ _ w (hins.get w hw) (q_ins.get w hw) hp) (by rintro hp e0 rfl ok; exact ⟨(), rfl, rfl, firstLong_iff (by omega)⟩)
theorem tx_ContainsFunc (insA : Option Addr) (insc : Nat) (ins : List InG) (w0 : World) (hins : Slr w0 RIn (.slice insA ins.length insc) ins) (q_ins : InsP w0 ins) (hp : ins.length ≤ 140737488351232) :
    Ct Tryd.prog 58 [.slice insA ins.length insc, (.func (.func 57) #[] #[])] w0 no (fun ((e0) : Bool) => .bool e0) (fun (e0) => []) (fun (e0) => e0 = decide (¬ InsOk ins)) := by
  have hst := St.start w0
  have i_ins := Rw.old hins
  have j_ins := InsR.old q_ins
  refine genter _ hst Tryd.func58 rfl rfl rfl rfl ?_
  repeat' (first
   | (refine z1 ?_; intros)
   | (refine z2 ?_ ?_ <;> first | exact zi | intro h | skip)
   | (refine kR ?_; refine zr (_) ?_)
   | (refine kO ?_; refine zc ?_ ?_ <;> intros))
  all_goals grind
instance c_tx_ContainsFunc {insA : Option Addr} {insc insn : Nat} {ins : List InG} {w0 : World} {X : Nat → Prop} {L : List Assn} [hins : Rw w0 X L (.slice insA insn insc) RIn ins] [q_ins : InsR w0 X L ins] : Ctr Tryd.prog 58 [.slice insA insn insc, (.func (.func 57) #[] #[])] w0 X L (ins.length ≤ 140737488351232) (fun _ : Unit => .bool (decide (¬ InsOk ins))) (fun _ : Unit => L) (fun _ : Unit => True) :=
  ctr' (M' := (fun _ : Unit => [])) (by kernel_rfl) (fun hp w hw => by have eins := hins.len hw; subst eins; exact tx_ContainsFunc _ _ _ w (hins.get w hw) (q_ins.get w hw) hp) (by rintro hp e0 rfl ok; exact ⟨(), rfl, rfl, trivial⟩)
theorem tx_Put (insA : Option Addr) (insc : Nat) (ins : List InG) (outsA : Option Addr) (outsc : Nat) (outs : List OutG) (after : Int) (w0 : World) (hins : Slr w0 RIn (.slice insA ins.length insc) ins) (q_ins : InsP w0 ins) (houts : Slr w0 ROut (.slice outsA outs.length outsc) outs) (q_outs : OutsP w0 outs) (hp : (0 ≤ after ∧ after ≤ 4294967295) ∧ InsN ins ∧ OutsN outs) :
    Ct Tryd.prog 33 [Ag [.one (.slice insA ins.length insc), .one (.slice outsA outs.length outsc), .one (.int .u32 after)]] w0 no (fun ((⟨s0, n0, x0⟩, e1) : Br UInt8 × Int) => .tuple #[.slice s0.A n0 s0.c, .int .i64 e1]) (fun (⟨s0, n0, x0⟩, e1) => [rw_ 5 RB s0 n0 x0]) (fun (⟨s0, n0, x0⟩, e1) => x0 = (txL ins outs after) ∧ e1 = txE ins outs after) := by
  have hst := St.start w0
  have i_ins := Rw.old hins
  have j_ins := InsR.old q_ins
  have i_outs := Rw.old houts
  have j_outs := OutsR.old q_outs
  refine genter _ hst Tryd.func33 rfl rfl rfl rfl ?_
  obtain ⟨hp1, hn1, hn2⟩ := hp
  repeat' (first
   | (refine z1 ?_; intros)
   | (refine z2 ?_ ?_ <;> first | exact zi | intro h | skip)
   | (refine kR ?_; refine zr (⟨⟨_, _⟩, _, _⟩, _) ?_)
   | (refine kO ?_; refine zc ?_ ?_ <;> intros))
  all_goals (simp only [txL, txE, TxMay]; grind)
instance c_tx_Put {insA : Option Addr} {insc insn : Nat} {ins : List InG} {outsA : Option Addr} {outsc outsn : Nat} {outs : List OutG} {after : Int} {w0 : World} {X : Nat → Prop} {L : List Assn} [hins : Rw w0 X L (.slice insA insn insc) RIn ins] [q_ins : InsR w0 X L ins] [houts : Rw w0 X L (.slice outsA outsn outsc) ROut outs] [q_outs : OutsR w0 X L outs] : Ctr Tryd.prog 33 [Ag [.one (.slice insA insn insc), .one (.slice outsA outsn outsc), .one (.int .u32 after)]] w0 X L ((0 ≤ after ∧ after ≤ 4294967295) ∧ InsN ins ∧ OutsN outs) (fun s0 : Sv => .tuple #[.slice s0.A (txL ins outs after).length s0.c, .int .i64 (txE ins outs after)]) (fun s0 : Sv => rw_ 5 RB s0 (txL ins outs after).length (txL ins outs after) :: L) (fun s0 : Sv => (txL ins outs after).length ≤ 8000) :=
  ctr' (M' := (fun s0 : Sv => [rw_ 5 RB s0 (txL ins outs after).length (txL ins outs after)])) (by kernel_rfl) (fun hp w hw => by have eins := hins.len hw; subst eins; have eouts := houts.len hw; subst eouts; exact tx_Put _ _ _ _ _ _ _ w (hins.get w hw) (q_ins.get w hw) (houts.get w hw) (q_outs.get w hw) hp) (by rintro hp ⟨⟨s0, n0, x0⟩, e1⟩ ⟨rfl, rfl⟩ ok; cases ok.row; exact ⟨s0, rfl, rfl, txL_le _ _ _⟩)
theorem tx_May (insA : Option Addr) (insc : Nat) (ins : List InG) (outsA : Option Addr) (outsc : Nat) (outs : List OutG) (after : Int) (w0 : World) (hins : Slr w0 RIn (.slice insA ins.length insc) ins) (q_ins : InsP w0 ins) (houts : Slr w0 ROut (.slice outsA outs.length outsc) outs) (q_outs : OutsP w0 outs) (hp : (0 ≤ after ∧ after ≤ 4294967295) ∧ InsN ins ∧ OutsN outs) :
    Ct Tryd.prog 42 [Ag [.one (.slice insA ins.length insc), .one (.slice outsA outs.length outsc), .one (.int .u32 after)]] w0 no (fun ((e0) : Bool) => .bool e0) (fun (e0) => []) (fun (e0) => e0 = decide (TxMay ins outs after)) := by
  have hst := St.start w0
  have i_ins := Rw.old hins
  have j_ins := InsR.old q_ins
  have i_outs := Rw.old houts
  have j_outs := OutsR.old q_outs
  refine genter _ hst Tryd.func42 rfl rfl rfl rfl ?_
  obtain ⟨hp1, hn1, hn2⟩ := hp
  repeat' (first
   | (refine z1 ?_; intros)
   | (refine z2 ?_ ?_ <;> first | exact zi | intro h | skip)
   | (refine kR ?_; refine zr (_) ?_)
   | (refine kO ?_; refine zc ?_ ?_ <;> intros))
  all_goals (unfold txE; grind)
instance c_tx_May {insA : Option Addr} {insc insn : Nat} {ins : List InG} {outsA : Option Addr} {outsc outsn : Nat} {outs : List OutG} {after : Int} {w0 : World} {X : Nat → Prop} {L : List Assn} [hins : Rw w0 X L (.slice insA insn insc) RIn ins] [q_ins : InsR w0 X L ins] [houts : Rw w0 X L (.slice outsA outsn outsc) ROut outs] [q_outs : OutsR w0 X L outs] : Ctr Tryd.prog 42 [Ag [.one (.slice insA insn insc), .one (.slice outsA outsn outsc), .one (.int .u32 after)]] w0 X L ((0 ≤ after ∧ after ≤ 4294967295) ∧ InsN ins ∧ OutsN outs) (fun _ : Unit => .bool (decide (TxMay ins outs after))) (fun _ : Unit => L) (fun _ : Unit => True) :=
  ctr' (M' := (fun _ : Unit => [])) (by kernel_rfl) (fun hp w hw => by have eins := hins.len hw; subst eins; have eouts := houts.len hw; subst eouts; exact tx_May _ _ _ _ _ _ _ w (hins.get w hw) (q_ins.get w hw) (houts.get w hw) (q_outs.get w hw) hp) (by rintro hp e0 rfl ok; exact ⟨(), rfl, rfl, trivial⟩)
theorem tx_Same1 (tx : List UInt8) [htx : LenIs tx 32] (n : Int) (ht : Int) (ulA : Option Addr) (ulc : Nat) (ul : List UInt8) (tx' : List UInt8) [htx' : LenIs tx' 32] (n' : Int) (ht' : Int) (ul'A : Option Addr) (ul'c : Nat) (ul' : List UInt8) (w0 : World) (hul : Slr w0 RB (.slice ulA ul.length ulc) ul) (hul' : Slr w0 RB (.slice ul'A ul'.length ul'c) ul') (hp : (0 ≤ n ∧ n ≤ 65535 ∧ 0 ≤ ht ∧ ht ≤ 4294967295) ∧ (0 ≤ n' ∧ n' ≤ 65535 ∧ 0 ≤ ht' ∧ ht' ≤ 4294967295)) :
    Ct Tryd.prog 64 [Ag [.blk 32 (RB.all tx), .one (.int .u16 n), .one (.int .u32 ht), .one (.slice ulA ul.length ulc)], Ag [.blk 32 (RB.all tx'), .one (.int .u16 n'), .one (.int .u32 ht'), .one (.slice ul'A ul'.length ul'c)]] w0 no (fun ((e0) : Bool) => .bool e0) (fun (e0) => []) (fun (e0) => e0 = decide ((tx = tx' ∧ n = n' ∧ ht = ht') ∧ ul = ul')) := by
  have hst := St.start w0
  have i_ul := Rw.old hul
  have i_ul' := Rw.old hul'
  refine genter _ hst Tryd.func64 rfl rfl rfl rfl ?_
  repeat' (first
   | (refine z1 ?_; intros)
   | (refine z2 ?_ ?_ <;> first | exact zi | intro h | skip)
   | (refine kR ?_; refine zr (_) ?_)
   | (refine kO ?_; refine zc ?_ ?_ <;> intros))
  all_goals grind
instance c_tx_Same1 {tx : List UInt8} {n : Int} {ht : Int} {ulA : Option Addr} {ulc uln : Nat} {ul : List UInt8} {tx' : List UInt8} {n' : Int} {ht' : Int} {ul'A : Option Addr} {ul'c ul'n : Nat} {ul' : List UInt8} {w0 : World} {X : Nat → Prop} {L : List Assn} [htx : LenIs tx 32] [hul : Rw w0 X L (.slice ulA uln ulc) RB ul] [htx' : LenIs tx' 32] [hul' : Rw w0 X L (.slice ul'A ul'n ul'c) RB ul'] : Ctr Tryd.prog 64 [Ag [.blk 32 (RB.all tx), .one (.int .u16 n), .one (.int .u32 ht), .one (.slice ulA uln ulc)], Ag [.blk 32 (RB.all tx'), .one (.int .u16 n'), .one (.int .u32 ht'), .one (.slice ul'A ul'n ul'c)]] w0 X L ((0 ≤ n ∧ n ≤ 65535 ∧ 0 ≤ ht ∧ ht ≤ 4294967295) ∧ (0 ≤ n' ∧ n' ≤ 65535 ∧ 0 ≤ ht' ∧ ht' ≤ 4294967295)) (fun _ : Unit => .bool (decide ((tx = tx' ∧ n = n' ∧ ht = ht') ∧ ul = ul'))) (fun _ : Unit => L) (fun _ : Unit => True) :=
  ctr' (M' := (fun _ : Unit => [])) (by kernel_rfl) (fun hp w hw => by have eul := hul.len hw; subst eul; have eul' := hul'.len hw; subst eul'; exact tx_Same1 _ _ _ _ _ _ _ _ _ _ _ _ w (hul.get w hw) (hul'.get w hw) hp) (by rintro hp e0 rfl ok; exact ⟨(), rfl, rfl, trivial⟩)
theorem tx_Same2 (v : Int) (lA : Option Addr) (lc : Nat) (l : List UInt8) (v' : Int) (l'A : Option Addr) (l'c : Nat) (l' : List UInt8) (w0 : World) (hl : Slr w0 RB (.slice lA l.length lc) l) (hl' : Slr w0 RB (.slice l'A l'.length l'c) l')  :
    Ct Tryd.prog 67 [Ag [.one (.int .u64 v), .one (.slice lA l.length lc)], Ag [.one (.int .u64 v'), .one (.slice l'A l'.length l'c)]] w0 no (fun ((e0) : Bool) => .bool e0) (fun (e0) => []) (fun (e0) => e0 = decide (v = v' ∧ l = l')) := by
  have hst := St.start w0
  have i_l := Rw.old hl
  have i_l' := Rw.old hl'
  refine genter _ hst Tryd.func67 rfl rfl rfl rfl ?_
  repeat' (first
   | (refine z1 ?_; intros)
   | (refine z2 ?_ ?_ <;> first | exact zi | intro h | skip)
   | (refine kR ?_; refine zr (_) ?_)
   | (refine kO ?_; refine zc ?_ ?_ <;> intros))
  all_goals grind
instance c_tx_Same2 {v : Int} {lA : Option Addr} {lc ln : Nat} {l : List UInt8} {v' : Int} {l'A : Option Addr} {l'c l'n : Nat} {l' : List UInt8} {w0 : World} {X : Nat → Prop} {L : List Assn} [hl : Rw w0 X L (.slice lA ln lc) RB l] [hl' : Rw w0 X L (.slice l'A l'n l'c) RB l'] : Ctr Tryd.prog 67 [Ag [.one (.int .u64 v), .one (.slice lA ln lc)], Ag [.one (.int .u64 v'), .one (.slice l'A l'n l'c)]] w0 X L (True) (fun _ : Unit => .bool (decide (v = v' ∧ l = l'))) (fun _ : Unit => L) (fun _ : Unit => True) :=
  ctr' (M' := (fun _ : Unit => [])) (by kernel_rfl) (fun hp w hw => by have el := hl.len hw; subst el; have el' := hl'.len hw; subst el'; exact tx_Same2 _ _ _ _ _ _ _ _ w (hl.get w hw) (hl'.get w hw)) (by rintro hp e0 rfl ok; exact ⟨(), rfl, rfl, trivial⟩)
theorem tx_EqIns (aA : Option Addr) (ac : Nat) (a : List InG) (bA : Option Addr) (bc : Nat) (b : List InG) (w0 : World) (ha : Slr w0 RIn (.slice aA a.length ac) a) (q_a : InsP w0 a) (hb : Slr w0 RIn (.slice bA b.length bc) b) (q_b : InsP w0 b) (hp : InsN a ∧ InsN b) :
    Ct Tryd.prog 63 [.slice aA a.length ac, .slice bA b.length bc, (.func (.func 64) #[] #[])] w0 no (fun ((e0) : Bool) => .bool e0) (fun (e0) => []) (fun (e0) => e0 = decide (a.map inK = b.map inK)) := by
  have hst := St.start w0
  have i_a := Rw.old ha
  have j_a := InsR.old q_a
  have i_b := Rw.old hb
  have j_b := InsR.old q_b
  refine genter _ hst Tryd.func63 rfl rfl rfl rfl ?_
  have hcap := ha.cap
  repeat' (first
   | (refine z1 ?_; intros)
   | (refine z2 ?_ ?_ <;> first | exact zi | intro h | skip)
   | (refine kR ?_; refine zr (_) ?_)
   | (refine kO ?_; refine zc ?_ ?_ <;> intros))
  · have := len_ne (f := inK) (a := a) (b := b) (by omega)
    simp [this]
  · refine gloop [1, 2, 15, 16] (fun (i : Nat) K => (17, .int .i64 i) :: K) (fun i => []) (fun i => i ≤ a.length ∧ ∀ j, j < i → inK (ixd a (j : Int)) = inK (ixd b (j : Int))) (fun i => a.length - i) 0 rfl (by repeat (first | exact trivial | refine ⟨rfl, ?_⟩)) Ent.nil (by simp) (fun i hi => ?_)
    by_cases hlt : i < a.length
    · have ha := hp.1 (ixd a i) (ixd_mem ⟨by omega⟩ rfl)
      have hb := hp.2 (ixd b i) (ixd_mem (n := b.length) ⟨by omega⟩ rfl)
      repeat' (first
       | (refine z1 ?_; intros)
       | (refine z2 ?_ ?_ <;> first | exact zi | intro h | skip)
       | (refine kR ?_; refine zr (_) ?_)
       | (refine kO ?_; refine zc ?_ ?_ <;> intros))
      · have := map_ixd_ne (f := inK) (a := a) (b := b) hlt (by omega) (fun e => h (by simpa [inK, and_assoc] using e))
        simp [this]
      · refine gnl (i + 1) (by repeat (first | exact trivial | refine ⟨rfl, ?_⟩)) Ent.nil ⟨by omega, fun j hj => ?_⟩ (by omega)
        by_cases e : j = i
        · subst e; simp [inK, h]
        · exact hi.2 j (by omega)
    · obtain rfl : i = a.length := by omega
      repeat' (first
       | (refine z1 ?_; intros)
       | (refine z2 ?_ ?_ <;> first | exact zi | intro h | skip)
       | (refine kR ?_; refine zr (_) ?_)
       | (refine kO ?_; refine zc ?_ ?_ <;> intros))
      have := map_ixd (f := inK) (a := a) (b := b) (by omega) fun j hj => hi.2 j hj
      simp [this]
instance c_tx_EqIns {aA : Option Addr} {ac an : Nat} {a : List InG} {bA : Option Addr} {bc bn : Nat} {b : List InG} {w0 : World} {X : Nat → Prop} {L : List Assn} [ha : Rw w0 X L (.slice aA an ac) RIn a] [q_a : InsR w0 X L a] [hb : Rw w0 X L (.slice bA bn bc) RIn b] [q_b : InsR w0 X L b] : Ctr Tryd.prog 63 [.slice aA an ac, .slice bA bn bc, (.func (.func 64) #[] #[])] w0 X L (InsN a ∧ InsN b) (fun _ : Unit => .bool (decide (a.map inK = b.map inK))) (fun _ : Unit => L) (fun _ : Unit => True) :=
  ctr' (M' := (fun _ : Unit => [])) (by kernel_rfl) (fun hp w hw => by have ea := ha.len hw; subst ea; have eb := hb.len hw; subst eb; exact tx_EqIns _ _ _ _ _ _ w (ha.get w hw) (q_a.get w hw) (hb.get w hw) (q_b.get w hw) hp) (by rintro hp e0 rfl ok; exact ⟨(), rfl, rfl, trivial⟩)
theorem tx_EqOuts (aA : Option Addr) (ac : Nat) (a : List OutG) (bA : Option Addr) (bc : Nat) (b : List OutG) (w0 : World) (ha : Slr w0 ROut (.slice aA a.length ac) a) (q_a : OutsP w0 a) (hb : Slr w0 ROut (.slice bA b.length bc) b) (q_b : OutsP w0 b)  :
    Ct Tryd.prog 66 [.slice aA a.length ac, .slice bA b.length bc, (.func (.func 67) #[] #[])] w0 no (fun ((e0) : Bool) => .bool e0) (fun (e0) => []) (fun (e0) => e0 = decide (a.map outK = b.map outK)) := by
  have hst := St.start w0
  have i_a := Rw.old ha
  have j_a := OutsR.old q_a
  have i_b := Rw.old hb
  have j_b := OutsR.old q_b
  refine genter _ hst Tryd.func66 rfl rfl rfl rfl ?_
  have hcap := ha.cap
  repeat' (first
   | (refine z1 ?_; intros)
   | (refine z2 ?_ ?_ <;> first | exact zi | intro h | skip)
   | (refine kR ?_; refine zr (_) ?_)
   | (refine kO ?_; refine zc ?_ ?_ <;> intros))
  · have := len_ne (f := outK) (a := a) (b := b) (by omega)
    simp [this]
  · refine gloop [1, 2, 15, 16] (fun (i : Nat) K => (17, .int .i64 i) :: K) (fun i => []) (fun i => i ≤ a.length ∧ ∀ j, j < i → outK (ixd a (j : Int)) = outK (ixd b (j : Int))) (fun i => a.length - i) 0 rfl (by repeat (first | exact trivial | refine ⟨rfl, ?_⟩)) Ent.nil (by simp) (fun i hi => ?_)
    by_cases hlt : i < a.length
    · have ha := True.intro
      have hb := True.intro
      repeat' (first
       | (refine z1 ?_; intros)
       | (refine z2 ?_ ?_ <;> first | exact zi | intro h | skip)
       | (refine kR ?_; refine zr (_) ?_)
       | (refine kO ?_; refine zc ?_ ?_ <;> intros))
      · have := map_ixd_ne (f := outK) (a := a) (b := b) hlt (by omega) (fun e => h (by simpa [outK, and_assoc] using e))
        simp [this]
      · refine gnl (i + 1) (by repeat (first | exact trivial | refine ⟨rfl, ?_⟩)) Ent.nil ⟨by omega, fun j hj => ?_⟩ (by omega)
        by_cases e : j = i
        · subst e; simp [outK, h]
        · exact hi.2 j (by omega)
    · obtain rfl : i = a.length := by omega
      repeat' (first
       | (refine z1 ?_; intros)
       | (refine z2 ?_ ?_ <;> first | exact zi | intro h | skip)
       | (refine kR ?_; refine zr (_) ?_)
       | (refine kO ?_; refine zc ?_ ?_ <;> intros))
      have := map_ixd (f := outK) (a := a) (b := b) (by omega) fun j hj => hi.2 j hj
      simp [this]
instance c_tx_EqOuts {aA : Option Addr} {ac an : Nat} {a : List OutG} {bA : Option Addr} {bc bn : Nat} {b : List OutG} {w0 : World} {X : Nat → Prop} {L : List Assn} [ha : Rw w0 X L (.slice aA an ac) ROut a] [q_a : OutsR w0 X L a] [hb : Rw w0 X L (.slice bA bn bc) ROut b] [q_b : OutsR w0 X L b] : Ctr Tryd.prog 66 [.slice aA an ac, .slice bA bn bc, (.func (.func 67) #[] #[])] w0 X L (True) (fun _ : Unit => .bool (decide (a.map outK = b.map outK))) (fun _ : Unit => L) (fun _ : Unit => True) :=
  ctr' (M' := (fun _ : Unit => [])) (by kernel_rfl) (fun hp w hw => by have ea := ha.len hw; subst ea; have eb := hb.len hw; subst eb; exact tx_EqOuts _ _ _ _ _ _ w (ha.get w hw) (q_a.get w hw) (hb.get w hw) (q_b.get w hw)) (by rintro hp e0 rfl ok; exact ⟨(), rfl, rfl, trivial⟩)
theorem tx_Same (i1A : Option Addr) (i1c : Nat) (i1 : List InG) (o1A : Option Addr) (o1c : Nat) (o1 : List OutG) (a1 : Int) (i2A : Option Addr) (i2c : Nat) (i2 : List InG) (o2A : Option Addr) (o2c : Nat) (o2 : List OutG) (a2 : Int) (w0 : World) (hi1 : Slr w0 RIn (.slice i1A i1.length i1c) i1) (q_i1 : InsP w0 i1) (ho1 : Slr w0 ROut (.slice o1A o1.length o1c) o1) (q_o1 : OutsP w0 o1) (hi2 : Slr w0 RIn (.slice i2A i2.length i2c) i2) (q_i2 : InsP w0 i2) (ho2 : Slr w0 ROut (.slice o2A o2.length o2c) o2) (q_o2 : OutsP w0 o2) (hp : InsN i1 ∧ InsN i2) :
    Ct Tryd.prog 38 [Ag [.one (.slice i1A i1.length i1c), .one (.slice o1A o1.length o1c), .one (.int .u32 a1)], Ag [.one (.slice i2A i2.length i2c), .one (.slice o2A o2.length o2c), .one (.int .u32 a2)]] w0 no (fun ((e0) : Bool) => .bool e0) (fun (e0) => []) (fun (e0) => e0 = decide (TxSame i1 o1 a1 i2 o2 a2)) := by
  have hst := St.start w0
  have i_i1 := Rw.old hi1
  have j_i1 := InsR.old q_i1
  have i_o1 := Rw.old ho1
  have j_o1 := OutsR.old q_o1
  have i_i2 := Rw.old hi2
  have j_i2 := InsR.old q_i2
  have i_o2 := Rw.old ho2
  have j_o2 := OutsR.old q_o2
  refine genter _ hst Tryd.func38 rfl rfl rfl rfl ?_
  obtain ⟨h3, h4⟩ := hp
  repeat' (first
   | (refine z1 ?_; intros)
   | (refine z2 ?_ ?_ <;> first | exact zi | intro h | skip)
   | (refine kR ?_; refine zr (_) ?_)
   | (refine kO ?_; refine zc ?_ ?_ <;> intros))
  all_goals grind
instance c_tx_Same {i1A : Option Addr} {i1c i1n : Nat} {i1 : List InG} {o1A : Option Addr} {o1c o1n : Nat} {o1 : List OutG} {a1 : Int} {i2A : Option Addr} {i2c i2n : Nat} {i2 : List InG} {o2A : Option Addr} {o2c o2n : Nat} {o2 : List OutG} {a2 : Int} {w0 : World} {X : Nat → Prop} {L : List Assn} [hi1 : Rw w0 X L (.slice i1A i1n i1c) RIn i1] [q_i1 : InsR w0 X L i1] [ho1 : Rw w0 X L (.slice o1A o1n o1c) ROut o1] [q_o1 : OutsR w0 X L o1] [hi2 : Rw w0 X L (.slice i2A i2n i2c) RIn i2] [q_i2 : InsR w0 X L i2] [ho2 : Rw w0 X L (.slice o2A o2n o2c) ROut o2] [q_o2 : OutsR w0 X L o2] : Ctr Tryd.prog 38 [Ag [.one (.slice i1A i1n i1c), .one (.slice o1A o1n o1c), .one (.int .u32 a1)], Ag [.one (.slice i2A i2n i2c), .one (.slice o2A o2n o2c), .one (.int .u32 a2)]] w0 X L (InsN i1 ∧ InsN i2) (fun _ : Unit => .bool (decide (TxSame i1 o1 a1 i2 o2 a2))) (fun _ : Unit => L) (fun _ : Unit => True) :=
  ctr' (M' := (fun _ : Unit => [])) (by kernel_rfl) (fun hp w hw => by have ei1 := hi1.len hw; subst ei1; have eo1 := ho1.len hw; subst eo1; have ei2 := hi2.len hw; subst ei2; have eo2 := ho2.len hw; subst eo2; exact tx_Same _ _ _ _ _ _ _ _ _ _ _ _ _ _ w (hi1.get w hw) (q_i1.get w hw) (ho1.get w hw) (q_o1.get w hw) (hi2.get w hw) (q_i2.get w hw) (ho2.get w hw) (q_o2.get w hw) hp) (by rintro hp e0 rfl ok; exact ⟨(), rfl, rfl, trivial⟩)
end Go.Proofs.YtalainpmlonahaaDoor
