/-
  TxSigns: its walk.
-/
import Derived.Test.YtdbikdbogpofbaaDoorVref07D
import Derived.Test.YtdbikdbogpofbaaDoorVgreat
set_option linter.all false
set_option maxRecDepth 100000
set_option synthInstance.maxHeartbeats 1000000
set_option synthInstance.maxSize 4000
set_option maxHeartbeats 4000000
namespace Go.Proofs.YtdbikdbogpofbaaDoor
open Go.RowKit
/-- an input with another unlock -/
def ulG (g : InG) (o : List UInt8) (s : Sv) : InG := ⟨g.tx, g.n, g.ht, o, s⟩
theorem wrap64_b (n : Int) : 0 ≤ IntKind.u64.wrap n ∧ IntKind.u64.wrap n ≤ 18446744073709551615 := by rw [IntKind.wrap_u64]; omega
theorem ixd_n {gs : List InG} (h : InsN gs) (i : Int) : 0 ≤ (ixd gs i).n ∧ (ixd gs i).n ≤ 65535 ∧ 0 ≤ (ixd gs i).ht ∧ (ixd gs i).ht ≤ 4294967295 := by
  by_cases hi : i.toNat < gs.length
  · rw [ixd_eq hi]; exact h _ (List.getElem_mem _)
  · have e : ixd gs i = default := by unfold ixd; rw [List.getD_eq_getElem?_getD, List.getElem?_eq_none (by omega)]; rfl
    rw [e]; exact ⟨by decide, by decide, by decide, by decide⟩
theorem set_n {gs : List InG} {k : Nat} {i : Int} {o : List UInt8} {s : Sv} (h : InsN gs) : InsN (gs.set k (ulG (ixd gs i) o s)) := fun g hg => by
  rcases List.mem_or_eq_of_mem_set hg with h1 | rfl
  · exact h g h1
  · exact ixd_n h i
instance InsR.setU {w0 : World} {X : Nat → Prop} {L : List Assn} {gs : List InG} {k : Nat} {i : Int} {o : List UInt8} {A : Option Addr} {c : Nat} [h : InsR w0 X L gs] [ho : Rw w0 X L (.slice A o.length c) RB o] : InsR w0 X L (gs.set k (ulG (ixd gs i) o ⟨A, c⟩)) := ⟨fun w hw g hg => by
  rcases List.mem_or_eq_of_mem_set hg with h1 | rfl
  · exact h.get w hw g h1
  · exact ⟨ixd_n (fun g hg => (h.get w hw g hg).1) i, ho.get w hw⟩⟩
theorem strip_set {gs : List InG} {k : Nat} {o : List UInt8} {s : Sv} (hk : k < gs.length) : stripL (gs.set k (ulG (ixd gs k) o s)) = stripL gs := by
  unfold stripL
  rw [List.map_set]
  have e : stripG (ulG (ixd gs k) o s) = (gs.map stripG)[k]'(by simpa using hk) := by rw [ixd_eq (by simpa using hk)]; simp [stripG, ulG]
  rw [e, List.set_getElem_self]
theorem insB_set {gs : List InG} {k : Nat} {o : List UInt8} {s : Sv} (hk : k < gs.length) (he : (ixd gs k).ul = o) : insB (gs.set k (ulG (ixd gs k) o s)) = insB gs := by
  unfold insB
  rw [List.flatMap_def, List.flatMap_def, List.map_set]
  have e : inB (ulG (ixd gs k) o s) = (gs.map inB)[k]'(by simpa using hk) := by rw [ixd_eq (by simpa using hk)] at *; subst he; simp [inB, ulG]
  rw [e, List.set_getElem_self]
theorem dg_set {ins : List InG} {outs : List OutG} {after j k : Int} {tx : List UInt8} {m ht v : Int} {base : Bool} {lock o : List UInt8} {s : Sv} (hj : 0 ≤ j ∧ j < ins.length) (h1 : TxMay ins outs after) (h2 : TxMay (ins.set j.toNat (ulG (ixd ins j) o s)) outs after) :
    dgH (ins.set j.toNat (ulG (ixd ins j) o s)) outs after j tx m ht v base lock = dgH ins outs after j tx m ht v base lock ∧ dgE (ins.set j.toNat (ulG (ixd ins j) o s)) outs after j v lock = dgE ins outs after j v lock := by
  obtain ⟨q, rfl⟩ := Int.eq_ofNat_of_zero_le hj.1
  rw [Int.toNat_natCast] at *
  have hS := strip_set (gs := ins) (k := q) (o := o) (s := s) (by omega)
  have hl : (ins.set q (ulG (ixd ins q) o s)).length = ins.length := by simp
  have e : DgOk (ins.set q (ulG (ixd ins q) o s)) outs after q v lock ↔ DgOk ins outs after q v lock := by
    unfold DgOk
    rw [hl]
    exact ⟨fun h => ⟨h.1, h1, h.2.2⟩, fun h => ⟨h.1, h2, h.2.2⟩⟩
  unfold dgH dgE dgL
  rw [hS]
  simp only [e]
  exact ⟨trivial, trivial⟩
theorem id_set {ins : List InG} {outs : List OutG} {after j : Int} {o : List UInt8} {s : Sv} (hj : 0 ≤ j ∧ j < ins.length) (h1 : TxMay ins outs after) (h2 : TxMay (ins.set j.toNat (ulG (ixd ins j) o s)) outs after) (h3 : (ixd ins j).ul = o) :
    idH (ins.set j.toNat (ulG (ixd ins j) o s)) outs after = idH ins outs after := by
  obtain ⟨q, rfl⟩ := Int.eq_ofNat_of_zero_le hj.1
  rw [Int.toNat_natCast] at *
  unfold idH
  rw [if_pos h1, if_pos h2]
  unfold txB
  rw [insB_set (by omega) h3, List.length_set]
theorem txSigns_ok (insA : Option Addr) (insc : Nat) (ins : List InG) (outsA : Option Addr) (outsc : Nat) (outs : List OutG) (after : Int) (k : Int) (tx : List UInt8) [htx : LenIs tx 32] (m : Int) (ht : Int) (v : Int) (base : Bool) (lockA : Option Addr) (lockc : Nat) (lock : List UInt8) (otherA : Option Addr) (otherc : Nat) (other : List UInt8) (w0 : World) (hK : KOk w0) (hins : Slr w0 RIn (.slice insA ins.length insc) ins) (q_ins : InsP w0 ins) (houts : Slr w0 ROut (.slice outsA outs.length outsc) outs) (q_outs : OutsP w0 outs) (hlock : Slr w0 RB (.slice lockA lock.length lockc) lock) (hother : Slr w0 RB (.slice otherA other.length otherc) other) (hp : (ins.length ≤ 1048576 ∧ outs.length ≤ 1048576 ∧ sumI ins ≤ 1048576 ∧ sumO outs ≤ 1048576) ∧ (0 ≤ after ∧ after ≤ 4294967295) ∧ InsN ins ∧ OutsN outs ∧ (0 ≤ m ∧ m ≤ 65535 ∧ 0 ≤ ht ∧ ht ≤ 4294967295 ∧ 0 ≤ v ∧ v ≤ 18446744073709551615)) :
    Ct Tryd.prog 6 [Ag [.one (.slice insA ins.length insc), .one (.slice outsA outs.length outsc), .one (.int .u32 after)], .int .i64 k, Ag [.blk 32 (RB.all tx), .one (.int .u16 m), .one (.int .u32 ht), .one (.int .u64 v), .one (.bool base), .one (.slice lockA lock.length lockc)], .slice otherA other.length otherc] w0 no (fun ((e0) : Bool) => .bool e0) (fun (e0) => []) (fun (e0) => e0 = true) := by
  have hst := St.start w0
  have j_hK := KR.old hK
  have i_ins := Rw.old hins
  have j_ins := InsR.old q_ins
  have i_outs := Rw.old houts
  have j_outs := OutsR.old q_outs
  have i_lock := Rw.old hlock
  have i_other := Rw.old hother
  refine genter _ hst Tryd.func6 rfl rfl rfl rfl ?_
  obtain ⟨⟨b1, b2, b3, b4⟩, hp1, hn1, hn2, hp2⟩ := hp
  have hw := wrap64_b k
  by_cases h0 : ins.length = 0
  · skip
    repeat' (first
     | (refine kO ?_; first | refine gv rfl rfl ?_ | refine gnil ?_ | refine gl rfl (lvb rfl rfl) rfl (fun _ => ?_) | refine gl rfl (lvB rfl rfl rfl) rfl (fun _ => ?_) | refine gl rfl (lve rfl rfl) rfl (fun _ => ?_) | refine gl rfl (lvE rfl rfl rfl) rfl (fun _ => ?_) | refine gl rfl (lva rfl rfl rfl rfl rfl) rfl (fun _ => ?_) | refine gp rfl (by (try simp only [InR]); omega) rfl ?_ | refine gf rfl rfl rfl ?_ | refine gix rfl rfl rfl rfl (by omega) rfl (fun _ => ?_) | refine gixa rfl rfl rfl rfl (by omega) rfl (fun _ => ?_) | (refine kK ?_; first | refine gcall rfl ?_ rfl (fun _ _ => ?_) (fun _ _ => ?_) | refine gcv rfl rfl ?_ rfl (fun _ _ => ?_) (fun _ _ => ?_)) | refine geql rfl rfl (by kernel_rfl) ?_ rfl ?_ | refine gx rfl rfl (fun _ => ?_) (fun _ => ?_) | refine ga rfl (fun _ => ?_) (fun _ => ?_) | refine gst rfl rfl rfl rfl ?_ ?_ | refine ge rfl rfl rfl rfl ?_ ?_ | refine gea rfl rfl rfl rfl rfl rfl rfl ?_ ?_ | refine gap rfl rfl rfl (by omega) rfl (fun _ => ?_) (fun _ => ?_) | refine gan rfl rfl rfl (by omega) rfl (fun _ => ?_) (fun _ => ?_) | refine gapz rfl rfl rfl rfl (by omega) rfl (fun _ => ?_) (fun _ => ?_) | refine ganz rfl rfl rfl rfl (by omega) rfl (fun _ => ?_) (fun _ => ?_) | refine gb rfl rfl rfl rfl ?_ | refine gw rfl rfl ?_ | (refine kg ?_; (first | refine guardT rfl rfl rfl rfl (fun h => ?_) (fun h => ?_) | refine guardF rfl rfl rfl rfl (fun h => ?_) (fun h => ?_) | refine guardU rfl rfl rfl rfl ?_ | refine guardTH rfl rfl rfl rfl ?_ (fun h => ?_) (fun h => ?_) | refine guardFH rfl rfl rfl rfl ?_ (fun h => ?_) (fun h => ?_) | refine guardUH rfl rfl rfl rfl ?_ ?_) <;> (first | exact h.elim | (exfalso; omega) | exact absurd h (by assumption) | exact absurd (by assumption) h | skip)))
     | (refine kC ?_; first | refine gseq ?_ | refine greg ?_ | refine gret ?_ | refine gskip ?_ | (refine gcond rfl (fun h => ?_) (fun h => ?_) <;> (first | exact h.elim | (exfalso; omega) | exact absurd h (by assumption) | exact absurd (by assumption) h | skip)))
     | (refine kN ?_; first | refine gthen ?_)
     | (refine kR ?_; first | refine grs ?_ | refine grc ?_)
     | (refine kR ?_; refine gr rfl (rvT rfl rv0) (_) rfl Ent.nil ?_)
     | (refine Pre.mk ?_; first | exact True.intro | omega | ((repeat' (first | refine And.intro ?_ ?_ | exact True.intro | assumption | omega)); done) | (simp only [and_true, true_and, or_true, true_or]; first | done | omega))
     | (refine kD ?_; first | exact dm_none))
    all_goals first | rfl | (exfalso; omega) | skip
  have hk : 0 ≤ IntKind.u64.wrap k % (ins.length : Int) ∧ IntKind.u64.wrap k % (ins.length : Int) < ins.length := ⟨Int.emod_nonneg _ (by omega), Int.emod_lt_of_pos _ (by omega)⟩
  have hsn : InsN (ins.set (IntKind.u64.wrap k % (ins.length : Int)).toNat (ulG (ixd ins (IntKind.u64.wrap k % (ins.length : Int))) other ⟨otherA, otherc⟩)) := set_n hn1
  have hdg := fun h1 h2 => dg_set (k := k) (tx := tx) (m := m) (ht := ht) (v := v) (base := base) (lock := lock) (o := other) (s := ⟨otherA, otherc⟩) hk h1 h2 (after := after) (outs := outs)
  have hid := fun h1 h2 h3 => id_set (o := other) (s := ⟨otherA, otherc⟩) hk h1 h2 h3 (after := after) (outs := outs)
  repeat' (first
   | (refine kO ?_; first | refine gep (ulG (ixd ins _) other ⟨otherA, otherc⟩) rfl rfl rfl rfl ?_ ?_ | refine gv rfl rfl ?_ | refine gnil ?_ | refine gl rfl (lvb rfl rfl) rfl (fun _ => ?_) | refine gl rfl (lvB rfl rfl rfl) rfl (fun _ => ?_) | refine gl rfl (lve rfl rfl) rfl (fun _ => ?_) | refine gl rfl (lvE rfl rfl rfl) rfl (fun _ => ?_) | refine gl rfl (lva rfl rfl rfl rfl rfl) rfl (fun _ => ?_) | refine gp rfl (by (try simp only [InR]); omega) rfl ?_ | refine gf rfl rfl rfl ?_ | refine gix rfl rfl rfl rfl (by omega) rfl (fun _ => ?_) | refine gixa rfl rfl rfl rfl (by omega) rfl (fun _ => ?_) | (refine kK ?_; first | refine gcall rfl ?_ rfl (fun _ _ => ?_) (fun _ _ => ?_) | refine gcv rfl rfl ?_ rfl (fun _ _ => ?_) (fun _ _ => ?_)) | refine geql rfl rfl (by kernel_rfl) ?_ rfl ?_ | refine gx rfl rfl (fun _ => ?_) (fun _ => ?_) | refine ga rfl (fun _ => ?_) (fun _ => ?_) | refine gst rfl rfl rfl rfl ?_ ?_ | refine ge rfl rfl rfl rfl ?_ ?_ | refine gea rfl rfl rfl rfl rfl rfl rfl ?_ ?_ | refine gap rfl rfl rfl (by omega) rfl (fun _ => ?_) (fun _ => ?_) | refine gan rfl rfl rfl (by omega) rfl (fun _ => ?_) (fun _ => ?_) | refine gapz rfl rfl rfl rfl (by omega) rfl (fun _ => ?_) (fun _ => ?_) | refine ganz rfl rfl rfl rfl (by omega) rfl (fun _ => ?_) (fun _ => ?_) | refine gb rfl rfl rfl rfl ?_ | refine gw rfl rfl ?_ | (refine kg ?_; (first | refine guardT rfl rfl rfl rfl (fun h => ?_) (fun h => ?_) | refine guardF rfl rfl rfl rfl (fun h => ?_) (fun h => ?_) | refine guardU rfl rfl rfl rfl ?_ | refine guardTH rfl rfl rfl rfl ?_ (fun h => ?_) (fun h => ?_) | refine guardFH rfl rfl rfl rfl ?_ (fun h => ?_) (fun h => ?_) | refine guardUH rfl rfl rfl rfl ?_ ?_) <;> (first | exact h.elim | (exfalso; omega) | exact absurd h (by assumption) | exact absurd (by assumption) h | skip)))
   | (refine kC ?_; first | refine gseq ?_ | refine greg ?_ | refine gret ?_ | refine gskip ?_ | (refine gcond rfl (fun h => ?_) (fun h => ?_) <;> (first | exact h.elim | (exfalso; omega) | exact absurd h (by assumption) | exact absurd (by assumption) h | skip)))
   | (refine kN ?_; first | refine gthen ?_)
   | (refine kR ?_; first | refine grs ?_ | refine grc ?_)
   | (refine kR ?_; refine gr rfl (rvT rfl rv0) (_) rfl Ent.nil ?_)
   | (refine Pre.mk ?_; first | exact True.intro | omega | ((repeat' (first | refine And.intro ?_ ?_ | exact True.intro | assumption | omega)); done) | (simp only [and_true, true_and, or_true, true_or]; first | done | omega))
   | (refine kD ?_; first | exact dm_none))
  all_goals first
    | rfl
    | (exfalso; omega)
    | (exfalso; have a1 := hdg (by assumption) (by assumption); have a2 := fun h3 => hid (by assumption) (by assumption) h3; clear hdg hid hK hst; grind [txE])
    | skip
instance c_txSigns_ok {insA : Option Addr} {insc insn : Nat} {ins : List InG} {outsA : Option Addr} {outsc outsn : Nat} {outs : List OutG} {after : Int} {k : Int} {tx : List UInt8} {m : Int} {ht : Int} {v : Int} {base : Bool} {lockA : Option Addr} {lockc lockn : Nat} {lock : List UInt8} {otherA : Option Addr} {otherc othern : Nat} {other : List UInt8} {w0 : World} {X : Nat → Prop} {L : List Assn} [hK : KR w0 X L] [hins : Rw w0 X L (.slice insA insn insc) RIn ins] [q_ins : InsR w0 X L ins] [houts : Rw w0 X L (.slice outsA outsn outsc) ROut outs] [q_outs : OutsR w0 X L outs] [htx : LenIs tx 32] [hlock : Rw w0 X L (.slice lockA lockn lockc) RB lock] [hother : Rw w0 X L (.slice otherA othern otherc) RB other] : Ctr Tryd.prog 6 [Ag [.one (.slice insA insn insc), .one (.slice outsA outsn outsc), .one (.int .u32 after)], .int .i64 k, Ag [.blk 32 (RB.all tx), .one (.int .u16 m), .one (.int .u32 ht), .one (.int .u64 v), .one (.bool base), .one (.slice lockA lockn lockc)], .slice otherA othern otherc] w0 X L ((ins.length ≤ 1048576 ∧ outs.length ≤ 1048576 ∧ sumI ins ≤ 1048576 ∧ sumO outs ≤ 1048576) ∧ (0 ≤ after ∧ after ≤ 4294967295) ∧ InsN ins ∧ OutsN outs ∧ (0 ≤ m ∧ m ≤ 65535 ∧ 0 ≤ ht ∧ ht ≤ 4294967295 ∧ 0 ≤ v ∧ v ≤ 18446744073709551615)) (fun _ : Unit => .bool (true)) (fun _ : Unit => L) (fun _ : Unit => True) :=
  ctr' (M' := (fun _ : Unit => [])) (by kernel_rfl) (fun hp w hw => by have eins := hins.len hw; subst eins; have eouts := houts.len hw; subst eouts; have elock := hlock.len hw; subst elock; have eother := hother.len hw; subst eother; exact txSigns_ok _ _ _ _ _ _ _ _ _ _ _ _ _ _ _ _ _ _ _ w (hK.get w hw) (hins.get w hw) (q_ins.get w hw) (houts.get w hw) (q_outs.get w hw) (hlock.get w hw) (hother.get w hw) hp) (by rintro hp e0 rfl ok; exact ⟨(), rfl, rfl, trivial⟩)
end Go.Proofs.YtdbikdbogpofbaaDoor
