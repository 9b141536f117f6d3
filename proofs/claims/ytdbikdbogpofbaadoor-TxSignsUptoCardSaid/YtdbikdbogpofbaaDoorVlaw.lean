/-
  the laws of layer 7 that need no hash.
-/
import Derived.Test.YtdbikdbogpofbaaDoorVrd
set_option linter.all false
set_option maxRecDepth 100000
set_option synthInstance.maxHeartbeats 1000000
set_option synthInstance.maxSize 4000

namespace Go.Proofs.YtdbikdbogpofbaaDoor
open Go.RowKit

/-- an array of zeros -/
theorem gba0 {P : Program} {n : Nat} {w0 : World} {X : Nat → Prop} {Q : Cont} {E : Env} {L : List Assn} {s : Ms} {ops : Array Oper} {rest : List Oper} {d : Nat} {ty : TypeId} {pos : String} {aft : Array Edge} {t e : TypeId} {k sz : Nat} {z : List Cs}
    (hs : P.underlying t = some (.array k e)) [hz : ZS P t z] (hz2 : szB P e = some sz) (hd : Nat.blt d n = true)
    (kk : GO P n w0 X (nextM s) ops rest Q ((d, Ag z) :: E) L) : GO P n w0 X s ops (⟨some d, .build t #[], ty, pos, aft, none⟩ :: rest) Q E L := by
  refine go_yld rfl (fun _ _ => ⟨fun a w ha => ?_⟩) hd kk
  obtain ⟨zv, hzv, hzc⟩ := Option.map_eq_some_iff.1 hz.h
  have e0 : zv.cells = (flat z).toArray := by rw [← hzc]
  simp [execOp, Instr.build, run_zeroValue hzv, run_underlying hs, run_sizeOf hz2, Instr.fill, Ag, e0]
theorem tx_Digest0 (insA : Option Addr) (insc : Nat) (ins : List InG) (outsA : Option Addr) (outsc : Nat) (outs : List OutG) (after : Int) (k : Int) (tx : List UInt8) [htx : LenIs tx 32] (m : Int) (ht : Int) (v : Int) (base : Bool) (lockA : Option Addr) (lockc : Nat) (lock : List UInt8) (w0 : World) (hins : Slr w0 RIn (.slice insA ins.length insc) ins) (q_ins : InsP w0 ins) (houts : Slr w0 ROut (.slice outsA outs.length outsc) outs) (q_outs : OutsP w0 outs) (hlock : Slr w0 RB (.slice lockA lock.length lockc) lock) (hp : (0 ≤ after ∧ after ≤ 4294967295) ∧ InsN ins ∧ OutsN outs ∧ (0 ≤ m ∧ m ≤ 65535 ∧ 0 ≤ ht ∧ ht ≤ 4294967295 ∧ 0 ≤ v ∧ v ≤ 18446744073709551615) ∧ ins.length ≤ k) :
    Ct Tryd.prog 22 [Ag [.one (.slice insA ins.length insc), .one (.slice outsA outs.length outsc), .one (.int .u32 after)], .int .i64 k, Ag [.blk 32 (RB.all tx), .one (.int .u16 m), .one (.int .u32 ht), .one (.int .u64 v), .one (.bool base), .one (.slice lockA lock.length lockc)]] w0 no (fun ((e0, e1) : List UInt8 × Int) => .tuple #[Ag [.blk 32 (RB.all e0)], .int .i64 e1]) (fun (e0, e1) => []) (fun (e0, e1) => e0 = (zH).l ∧ e1 = (2 : Int)) := by
  have hst := St.start w0
  have i_ins := Rw.old hins
  have j_ins := InsR.old q_ins
  have i_outs := Rw.old houts
  have j_outs := OutsR.old q_outs
  have i_lock := Rw.old hlock
  refine genter _ hst Tryd.func22 rfl rfl rfl rfl ?_
  obtain ⟨hp1, hn1, hn2, hp2, hp3⟩ := hp
  repeat' (first
   | (refine kO ?_; first | refine gba0 rfl rfl rfl ?_ | refine gv rfl rfl ?_ | refine gnil ?_ | refine gl rfl (lvb rfl rfl) rfl (fun _ => ?_) | refine gl rfl (lvB rfl rfl rfl) rfl (fun _ => ?_) | refine gl rfl (lve rfl rfl) rfl (fun _ => ?_) | refine gl rfl (lvE rfl rfl rfl) rfl (fun _ => ?_) | refine gl rfl (lva rfl rfl rfl rfl rfl) rfl (fun _ => ?_) | refine gp rfl (by (try simp only [InR]); omega) rfl ?_ | refine gf rfl rfl rfl ?_ | (refine kK ?_; first | refine gcall rfl ?_ rfl (fun _ _ => ?_) (fun _ _ => ?_) | refine gcv rfl rfl ?_ rfl (fun _ _ => ?_) (fun _ _ => ?_)) | refine gneq rfl rfl (by kernel_rfl) ?_ rfl ?_ | refine gbu rfl rfl rfl rfl rfl ?_ | refine gx rfl rfl (fun _ => ?_) (fun _ => ?_) | refine ga rfl (fun _ => ?_) (fun _ => ?_) | refine gst rfl rfl rfl rfl ?_ ?_ | refine ge rfl rfl rfl rfl ?_ ?_ | refine gea rfl rfl rfl rfl rfl rfl rfl ?_ ?_ | refine gbs RB rfl rfl rfl rfl rfl rfl (fun _ => ?_) (fun _ => ?_) | refine gbb rfl rfl rfl (by first | (simp; done) | (simp only [and_true]; omega)) rfl rfl rfl rfl (fun _ => ?_) (fun _ => ?_) | refine gb rfl rfl rfl rfl ?_ | refine gw rfl rfl ?_ | (refine kg ?_; (first | refine guardT rfl rfl rfl rfl (fun h => ?_) (fun h => ?_) | refine guardF rfl rfl rfl rfl (fun h => ?_) (fun h => ?_) | refine guardU rfl rfl rfl rfl ?_ | refine guardTH rfl rfl rfl rfl ?_ (fun h => ?_) (fun h => ?_) | refine guardFH rfl rfl rfl rfl ?_ (fun h => ?_) (fun h => ?_) | refine guardUH rfl rfl rfl rfl ?_ ?_) <;> (first | exact h.elim | (exfalso; omega) | exact absurd h (by assumption) | exact absurd (by assumption) h | skip)))
   | (refine kC ?_; first | refine gseq ?_ | refine greg ?_ | refine gret ?_ | refine gskip ?_ | (refine gcond rfl (fun h => ?_) (fun h => ?_) <;> (first | exact h.elim | (exfalso; omega) | exact absurd h (by assumption) | exact absurd (by assumption) h | skip)))
   | (refine kN ?_; first | refine gthen ?_)
   | (refine kR ?_; first | refine grs ?_ | refine grc ?_)
   | (refine kR ?_; refine gr rfl (rvC rfl (lvb rfl rfl) (rvT rfl rv0)) (_, _) rfl Ent.nil ?_)
   | (refine kR ?_; refine gr rfl (rvC rfl (lvB rfl rfl rfl) (rvT rfl rv0)) (_, _) rfl Ent.nil ?_)
   | (refine Pre.mk ?_; first | exact True.intro | omega | ((repeat' (first | refine And.intro ?_ ?_ | exact True.intro | assumption | omega)); done) | (simp only [and_true, true_and, or_true, true_or]; first | done | omega))
   | (refine kD ?_; first | exact dm_none))
  all_goals exact ⟨rfl, rfl⟩
instance (priority := low) c_tx_Digest0 {insA : Option Addr} {insc insn : Nat} {ins : List InG} {outsA : Option Addr} {outsc outsn : Nat} {outs : List OutG} {after : Int} {k : Int} {tx : List UInt8} {m : Int} {ht : Int} {v : Int} {base : Bool} {lockA : Option Addr} {lockc lockn : Nat} {lock : List UInt8} {w0 : World} {X : Nat → Prop} {L : List Assn} [hins : Rw w0 X L (.slice insA insn insc) RIn ins] [q_ins : InsR w0 X L ins] [houts : Rw w0 X L (.slice outsA outsn outsc) ROut outs] [q_outs : OutsR w0 X L outs] [htx : LenIs tx 32] [hlock : Rw w0 X L (.slice lockA lockn lockc) RB lock] : Ctr Tryd.prog 22 [Ag [.one (.slice insA insn insc), .one (.slice outsA outsn outsc), .one (.int .u32 after)], .int .i64 k, Ag [.blk 32 (RB.all tx), .one (.int .u16 m), .one (.int .u32 ht), .one (.int .u64 v), .one (.bool base), .one (.slice lockA lockn lockc)]] w0 X L ((0 ≤ after ∧ after ≤ 4294967295) ∧ InsN ins ∧ OutsN outs ∧ (0 ≤ m ∧ m ≤ 65535 ∧ 0 ≤ ht ∧ ht ≤ 4294967295 ∧ 0 ≤ v ∧ v ≤ 18446744073709551615) ∧ ins.length ≤ k) (fun _ : Unit => .tuple #[Ag [.blk 32 (RB.all (zH).l)], .int .i64 ((2 : Int))]) (fun _ : Unit => L) (fun _ : Unit => True) :=
  ctr' (M' := (fun _ : Unit => [])) (by kernel_rfl) (fun hp w hw => by have eins := hins.len hw; subst eins; have eouts := houts.len hw; subst eouts; have elock := hlock.len hw; subst elock; exact tx_Digest0 _ _ _ _ _ _ _ _ _ _ _ _ _ _ _ _ w (hins.get w hw) (q_ins.get w hw) (houts.get w hw) (q_outs.get w hw) (hlock.get w hw) hp) (by rintro hp ⟨e0, e1⟩ ⟨rfl, rfl⟩ ok; exact ⟨(), rfl, rfl, trivial⟩)
section
variable {w0 : World} {X : Nat → Prop} {L : List Assn}
theorem Slr.nil {G : Type} {R : Rep G} {w : World} : Slr w R (.slice none 0 0) ([] : List G) := ⟨none, 0, rfl, by simp [Rep.all], Nat.le_refl _, by decide, fun h => absurd h (by simp [Rep.all])⟩
set_option synthInstance.checkSynthOrder false in
instance Rw.nil {G : Type} {R : Rep G} : Rw w0 X L (.slice none 0 0) R ([] : List G) := ⟨fun _ _ => Slr.nil⟩
instance InsR.nil : InsR w0 X L [] := ⟨fun _ _ _ h => by cases h⟩
instance OutsR.nil : OutsR w0 X L [] := ⟨fun _ _ _ h => by cases h⟩
end
theorem works_same (r : TxM) (hr : r.gi.map inK = trI (List.replicate 6 0) ∧ r.go.map outK = trO (List.replicate 6 0) ∧ InsN r.gi ∧ OutsN r.go) : TxSame r.gi r.go (trA (List.replicate 6 0)) [] [] 0 := by
  have f7 : trI (List.replicate 6 0) = [] := by kernel_rfl
  have f8 : trO (List.replicate 6 0) = [] := by kernel_rfl
  have f9 : trA (List.replicate 6 0) = 0 := by kernel_rfl
  exact ⟨f9, by rw [hr.1, f7]; rfl, by rw [hr.2.1, f8]; rfl⟩
theorem works_ok (w0 : World) : Ct Tryd.prog 13 [] w0 no (fun _ : Unit => .bool true) (fun _ => []) (fun _ => True) := by
  have hst := St.start w0
  have g1 : InsN [] := nofun
  have g2 : OutsN [] := nofun
  have g3 : ([] : List UInt8).length ≤ 140737488351232 := by decide
  have g4 : (List.replicate 6 (0 : UInt8)).length ≤ 140737488351232 := by decide
  have g5 : (List.replicate 7 (0 : UInt8)).length ≤ 140737488351232 := by decide
  have g6 : ([u8 17] : List UInt8).length ≤ 140737488351232 := by decide
  have g7 : ((([] : List InG).length : Nat) : Int) ≤ 0 := by decide
  have f7 : trI (List.replicate 6 0) = [] := by kernel_rfl
  have f8 : trO (List.replicate 6 0) = [] := by kernel_rfl
  have f9 : trA (List.replicate 6 0) = 0 := by kernel_rfl
  have f10 : TxMay [] [] 0 := of_decide_eq_true (by kernel_rfl)
  have f1 : trE [] = 4 := by kernel_rfl
  have f2 : trE (List.replicate 6 0) = 0 := by kernel_rfl
  have f3 : trE (List.replicate 7 0) = 5 := by kernel_rfl
  have f4 : trE [u8 17] = 3 := by kernel_rfl
  have f5 : txE [] [] 0 = 0 := by kernel_rfl
  have f6 : (txL [] [] 0).length = 6 := by kernel_rfl
  refine genter _ hst Tryd.func13 rfl rfl rfl rfl ?_
  repeat' (first
   | (refine kO ?_; first | refine gm (m := 6) rfl rfl rfl (by omega) rfl (fun _ => ?_) (fun _ => ?_) | refine gm (m := 7) rfl rfl rfl (by omega) rfl (fun _ => ?_) (fun _ => ?_) | refine gba0 rfl rfl rfl ?_ | refine gv rfl rfl ?_ | refine gnil ?_ | refine gl rfl (lvb rfl rfl) rfl (fun _ => ?_) | refine gl rfl (lvB rfl rfl rfl) rfl (fun _ => ?_) | refine gl rfl (lve rfl rfl) rfl (fun _ => ?_) | refine gl rfl (lvE rfl rfl rfl) rfl (fun _ => ?_) | refine gl rfl (lva rfl rfl rfl rfl rfl) rfl (fun _ => ?_) | refine gp rfl (by (try simp only [InR]); omega) rfl ?_ | (refine kK ?_; first | refine gcall rfl ?_ rfl (fun _ _ => ?_) (fun _ _ => ?_) | refine gcv rfl rfl ?_ rfl (fun _ _ => ?_) (fun _ _ => ?_)) | refine geql rfl rfl (by kernel_rfl) ?_ rfl ?_ | refine gbu rfl rfl rfl rfl rfl ?_ | refine ga rfl (fun _ => ?_) (fun _ => ?_) | refine gst rfl rfl rfl rfl ?_ ?_ | refine ge rfl rfl rfl rfl ?_ ?_ | refine gea rfl rfl rfl rfl rfl rfl rfl ?_ ?_ | refine gm0 rfl rfl rfl (by omega) rfl (fun _ => ?_) (fun _ => ?_) | refine gm rfl rfl rfl (by omega) rfl (fun _ => ?_) (fun _ => ?_) | refine gbs RB rfl rfl rfl rfl rfl rfl (fun _ => ?_) (fun _ => ?_) | refine gbb rfl rfl rfl (by first | (simp; done) | (simp only [and_true]; omega)) rfl rfl rfl rfl (fun _ => ?_) (fun _ => ?_) | (refine kg ?_; (first | refine guardT rfl rfl rfl rfl (fun h => ?_) (fun h => ?_) | refine guardF rfl rfl rfl rfl (fun h => ?_) (fun h => ?_) | refine guardU rfl rfl rfl rfl ?_ | refine guardTH rfl rfl rfl rfl ?_ (fun h => ?_) (fun h => ?_) | refine guardFH rfl rfl rfl rfl ?_ (fun h => ?_) (fun h => ?_) | refine guardUH rfl rfl rfl rfl ?_ ?_) <;> (first | exact h.elim | (exfalso; omega) | exact absurd h (by assumption) | exact absurd (by assumption) h | skip)))
   | (refine kC ?_; first | refine gseq ?_ | refine greg ?_ | refine gret ?_ | refine gskip ?_)
   | (refine kN ?_; first | refine gthen ?_)
   | (refine kR ?_; first | refine grs ?_ | refine grc ?_)
   | (refine kR ?_; refine gr rfl (rvT rfl rv0) (()) rfl Ent.nil ?_)
   | (refine Pre.mk ?_; first | exact True.intro | omega | ((repeat' (first | refine And.intro ?_ ?_ | exact True.intro | assumption | omega)); done) | (simp only [and_true, true_and, or_true, true_or]; first | done | omega))
   | (refine kD ?_; first | exact dm_none))
  · exact ⟨⟨TxM.hi _, g1⟩⟩
  · trivial
  · rename_i hn _ _ _ _ _ _ _ _
    exact absurd (works_same _ (by assumption)) hn
instance c_works {w0 : World} {X : Nat → Prop} {L : List Assn} : Ctr Tryd.prog 13 [] w0 X L True (fun _ : Unit => .bool true) (fun _ : Unit => L) (fun _ : Unit => True) :=
  ctr' (M' := fun _ : Unit => []) (by kernel_rfl) (fun _ w hw => works_ok w) (by rintro _ ⟨⟩ _ _; exact ⟨(), rfl, rfl, trivial⟩)
theorem txGets_ok (lA : Option Addr) (lc : Nat) (l : List UInt8) (i : Int) (w0 : World) (hl : Slr w0 RB (.slice lA l.length lc) l) (hp : l.length ≤ 140737488351232) :
    Ct Tryd.prog 3 [.slice lA l.length lc, .int .i64 i] w0 no (fun _ : Unit => .bool true) (fun _ => []) (fun _ => True) := by
  have hst := St.start w0
  have i_l := Rw.old hl
  refine genter _ hst Tryd.func3 rfl rfl rfl rfl ?_
  repeat' (first
   | (refine kO ?_; first | refine gv rfl rfl ?_ | refine gnil ?_ | refine gl rfl (lvb rfl rfl) rfl (fun _ => ?_) | refine gl rfl (lvB rfl rfl rfl) rfl (fun _ => ?_) | refine gl rfl (lve rfl rfl) rfl (fun _ => ?_) | refine gl rfl (lvE rfl rfl rfl) rfl (fun _ => ?_) | refine gl rfl (lva rfl rfl rfl rfl rfl) rfl (fun _ => ?_) | refine gp rfl (by (try simp only [InR]); omega) rfl ?_ | (refine kK ?_; first | refine gcall rfl ?_ rfl (fun _ _ => ?_) (fun _ _ => ?_) | refine gcv rfl rfl ?_ rfl (fun _ _ => ?_) (fun _ _ => ?_)) | refine geql rfl rfl (by kernel_rfl) ?_ rfl ?_ | refine ga rfl (fun _ => ?_) (fun _ => ?_) | refine gst rfl rfl rfl rfl ?_ ?_ | refine ge rfl rfl rfl rfl ?_ ?_ | refine gea rfl rfl rfl rfl rfl rfl rfl ?_ ?_ | (refine kg ?_; (first | refine guardT rfl rfl rfl rfl (fun h => ?_) (fun h => ?_) | refine guardF rfl rfl rfl rfl (fun h => ?_) (fun h => ?_) | refine guardU rfl rfl rfl rfl ?_ | refine guardTH rfl rfl rfl rfl ?_ (fun h => ?_) (fun h => ?_) | refine guardFH rfl rfl rfl rfl ?_ (fun h => ?_) (fun h => ?_) | refine guardUH rfl rfl rfl rfl ?_ ?_) <;> (first | exact h.elim | (exfalso; omega) | exact absurd h (by assumption) | exact absurd (by assumption) h | skip)))
   | (refine kC ?_; first | refine gseq ?_ | refine greg ?_ | refine gret ?_ | refine gskip ?_)
   | (refine kN ?_; first | refine gthen ?_)
   | (refine kR ?_; first | refine grs ?_ | refine grc ?_)
   | (refine kR ?_; refine gr rfl (rvT rfl rv0) (()) rfl Ent.nil ?_)
   | (refine Pre.mk ?_; first | exact True.intro | omega | ((repeat' (first | refine And.intro ?_ ?_ | exact True.intro | assumption | omega)); done) | (simp only [and_true, true_and, or_true, true_or]; first | done | omega))
   | (refine kD ?_; first | exact dm_none))
  all_goals first
    | exact ⟨⟨TxM.hi _, TxM.hi _⟩⟩
    | trivial
    | (exfalso; grind)
end Go.Proofs.YtdbikdbogpofbaaDoor
