/-
  tx.Digest, and the reference's: contracts.
-/
import Derived.Test.YtdbikdbogpofbaaDoorVtxId
set_option linter.all false
set_option maxRecDepth 100000
set_option synthInstance.maxHeartbeats 1000000
set_option synthInstance.maxSize 4000
set_option maxHeartbeats 4000000
namespace Go.Proofs.YtdbikdbogpofbaaDoor
open Go.RowKit

def stripG (g : InG) : InG := ⟨g.tx, g.n, g.ht, [], ⟨none, 0⟩⟩
def stripL (gs : List InG) : List InG := gs.map stripG
theorem stripL_step {gs : List InG} {i : Nat} (h : i < gs.length) : stripL (gs.take (i + 1)) = stripL (gs.take i) ++ [⟨(ixd gs i).tx, (ixd gs i).n, (ixd gs i).ht, [], ⟨none, 0⟩⟩] := by
  have e : ixd gs (i : Int) = gs[i] := by rw [ixd_eq (by simpa using h)]; simp
  unfold stripL
  rw [List.take_succ_eq_append_getElem h, e, List.map_append]; rfl
theorem stripL_len (gs : List InG) : (stripL gs).length = gs.length := by simp [stripL]
theorem stripL_n {gs : List InG} (h : InsN gs) : InsN (stripL gs) := fun g hg => by
  obtain ⟨x, hx, rfl⟩ := List.mem_map.1 hg
  exact h x hx
theorem stripL_ok (gs : List InG) : InsOk (stripL gs) := fun g hg => by
  obtain ⟨x, hx, rfl⟩ := List.mem_map.1 hg
  simp [stripG]
instance InsR.strip {w0 : World} {X : Nat → Prop} {L : List Assn} {gs : List InG} [h : InsR w0 X L gs] : InsR w0 X L (stripL gs) := ⟨fun w hw g hg => by
  obtain ⟨x, hx, rfl⟩ := List.mem_map.1 hg
  exact ⟨(h.get w hw x hx).1, Slr.nil⟩⟩
instance {tx : Hsh} {n ht : Int} : Elm RIn (.agg (flat [.blk 32 (RB.all tx.l), .one (.int .u16 n), .one (.int .u32 ht), .one (.slice none 0 0)]).toArray) ⟨tx, n, ht, [], ⟨none, 0⟩⟩ := ⟨by simp [Value.cells, RIn]⟩
theorem tx_stripped (insA : Option Addr) (insc : Nat) (ins : List InG) (outsA : Option Addr) (outsn outsc : Nat) (after : Int) (w0 : World) (hins : Slr w0 RIn (.slice insA ins.length insc) ins) (q_ins : InsP w0 ins) (hp : ins.length ≤ 1099511627776) :
    Ct Tryd.prog 46 [Ag [.one (.slice insA ins.length insc), .one (.slice outsA outsn outsc), .one (.int .u32 after)]] w0 no (fun s : Sv => Ag [.one (.slice s.A ins.length s.c), .one (.slice outsA outsn outsc), .one (.int .u32 after)]) (fun s => [rw_ 46 RIn s ins.length (stripL ins)]) (fun s => True) := by
  have hst := St.start w0
  have i_ins := Rw.old hins
  have j_ins := InsR.old q_ins
  refine genter _ hst Tryd.func46 rfl rfl rfl rfl ?_
  repeat' (first
   | (refine kO ?_; first | refine gv rfl rfl ?_ | refine gnil ?_ | refine gl rfl (lvb rfl rfl) rfl (fun _ => ?_) | refine gl rfl (lvB rfl rfl rfl) rfl (fun _ => ?_) | refine gl rfl (lve rfl rfl) rfl (fun _ => ?_) | refine gl rfl (lvE rfl rfl rfl) rfl (fun _ => ?_) | refine gl rfl (lva rfl rfl rfl rfl rfl) rfl (fun _ => ?_) | refine gp rfl (by (try simp only [InR]); omega) rfl ?_ | refine gf rfl rfl rfl ?_ | refine gix rfl rfl rfl rfl (by omega) rfl (fun _ => ?_) | refine gixa rfl rfl rfl rfl (by omega) rfl (fun _ => ?_) | (refine kK ?_; first | refine gcall rfl ?_ rfl (fun _ _ => ?_) (fun _ _ => ?_) | refine gcv rfl rfl ?_ rfl (fun _ _ => ?_) (fun _ _ => ?_)) | refine gbu rfl rfl rfl rfl rfl ?_ | refine gx rfl rfl (fun _ => ?_) (fun _ => ?_) | refine ga rfl (fun _ => ?_) (fun _ => ?_) | refine gst rfl rfl rfl rfl ?_ ?_ | refine ge rfl rfl rfl rfl ?_ ?_ | refine gea rfl rfl rfl rfl rfl rfl rfl ?_ ?_ | refine gap rfl rfl rfl (by omega) rfl (fun _ => ?_) (fun _ => ?_) | refine gan rfl rfl rfl (by omega) rfl (fun _ => ?_) (fun _ => ?_) | refine gapz rfl rfl rfl rfl (by omega) rfl (fun _ => ?_) (fun _ => ?_) | refine ganz rfl rfl rfl rfl (by omega) rfl (fun _ => ?_) (fun _ => ?_) | refine gbs RB rfl rfl rfl rfl rfl rfl (fun _ => ?_) (fun _ => ?_) | refine gbb rfl rfl rfl (by first | (simp; done) | (simp only [and_true]; omega)) rfl rfl rfl rfl (fun _ => ?_) (fun _ => ?_) | refine gw rfl rfl ?_)
   | (refine kC ?_; first | refine gseq ?_ | refine greg ?_ | refine gret ?_ | refine gskip ?_ | (refine gcond rfl (fun h => ?_) (fun h => ?_) <;> (first | exact h.elim | (exfalso; omega) | exact absurd h (by assumption) | exact absurd (by assumption) h | skip)) | refine gblk ?_ | refine gexit ?_)
   | (refine kN ?_; first | refine gthen ?_ | refine gnblk ?_)
   | (refine kR ?_; first | refine grs ?_ | refine grb ?_ | refine grl ?_ | refine grc ?_)
   | (refine kX ?_; first | refine gxs ?_ | refine gxb ?_ | refine gxn rfl ?_ | refine gxl ?_ | refine gxc ?_)
   | (refine kR ?_; refine gr rfl (rvC rfl (lvb rfl rfl) rv0) (⟨_, _⟩) rfl Ent.nil ?_)
   | (refine kR ?_; refine gr rfl (rvC rfl (lvB rfl rfl rfl) rv0) (⟨_, _⟩) rfl Ent.nil ?_)
   | (refine Pre.mk ?_; first | exact True.intro | omega | ((repeat' (first | refine And.intro ?_ ?_ | exact True.intro | assumption | omega)); done) | (simp only [and_true, true_and, or_true, true_or]; first | done | omega))
   | (refine kD ?_; first | exact dm_none))
  rename_i g1 g2 _ _ g3 _
  refine gloop2 [2, 3, 12, 13] (fun (i : Nat) (s : Sv) K => (14, .int .i64 i) :: K) (fun i s => [rw_ 46 RIn s i (stripL (ins.take i)), boxA g3 27 [.one (.slice s.A i s.c), .one (.slice outsA outsn outsc), .one (.int .u32 after)], boxA g2 27 [.one (.slice none 0 0), .one (.slice none 0 0), .one (.int .u32 0)], boxA g1 27 [.one (.slice insA ins.length insc), .one (.slice outsA outsn outsc), .one (.int .u32 after)]]) (fun i s => i ≤ ins.length) (fun i s => ins.length - i) 0 ⟨none, 0⟩ rfl (by repeat (first | exact trivial | refine ⟨rfl, ?_⟩)) (er0 (eb (eb (eb Ent.nil)))) (by omega) (fun i s hi => ?_)
  by_cases hlt : i < ins.length
  · skip
    repeat' (first
     | (refine kO ?_; first | refine gbs RIn rfl rfl rfl rfl rfl rfl (fun _ => ?_) (fun _ => ?_) | refine gv rfl rfl ?_ | refine gnil ?_ | refine gl rfl (lvb rfl rfl) rfl (fun _ => ?_) | refine gl rfl (lvB rfl rfl rfl) rfl (fun _ => ?_) | refine gl rfl (lve rfl rfl) rfl (fun _ => ?_) | refine gl rfl (lvE rfl rfl rfl) rfl (fun _ => ?_) | refine gl rfl (lva rfl rfl rfl rfl rfl) rfl (fun _ => ?_) | refine gp rfl (by (try simp only [InR]); omega) rfl ?_ | refine gf rfl rfl rfl ?_ | refine gix rfl rfl rfl rfl (by omega) rfl (fun _ => ?_) | refine gixa rfl rfl rfl rfl (by omega) rfl (fun _ => ?_) | (refine kK ?_; first | refine gcall rfl ?_ rfl (fun _ _ => ?_) (fun _ _ => ?_) | refine gcv rfl rfl ?_ rfl (fun _ _ => ?_) (fun _ _ => ?_)) | refine gbu rfl rfl rfl rfl rfl ?_ | refine gx rfl rfl (fun _ => ?_) (fun _ => ?_) | refine ga rfl (fun _ => ?_) (fun _ => ?_) | refine gst rfl rfl rfl rfl ?_ ?_ | refine ge rfl rfl rfl rfl ?_ ?_ | refine gea rfl rfl rfl rfl rfl rfl rfl ?_ ?_ | refine gap rfl rfl rfl (by omega) rfl (fun _ => ?_) (fun _ => ?_) | refine gan rfl rfl rfl (by omega) rfl (fun _ => ?_) (fun _ => ?_) | refine gapz rfl rfl rfl rfl (by omega) rfl (fun _ => ?_) (fun _ => ?_) | refine ganz rfl rfl rfl rfl (by omega) rfl (fun _ => ?_) (fun _ => ?_) | refine gbs RB rfl rfl rfl rfl rfl rfl (fun _ => ?_) (fun _ => ?_) | refine gbb rfl rfl rfl (by first | (simp; done) | (simp only [and_true]; omega)) rfl rfl rfl rfl (fun _ => ?_) (fun _ => ?_) | refine gw rfl rfl ?_)
     | (refine kC ?_; first | refine gseq ?_ | refine greg ?_ | refine gret ?_ | refine gskip ?_ | (refine gcond rfl (fun h => ?_) (fun h => ?_) <;> (first | exact h.elim | (exfalso; omega) | exact absurd h (by assumption) | exact absurd (by assumption) h | skip)) | refine gblk ?_ | refine gexit ?_)
     | (refine kN ?_; first | refine gthen ?_ | refine gnblk ?_)
     | (refine kR ?_; first | refine grs ?_ | refine grb ?_ | refine grl ?_ | refine grc ?_)
     | (refine kX ?_; first | refine gxs ?_ | refine gxb ?_ | refine gxn rfl ?_ | refine gxl ?_ | refine gxc ?_)
     | (refine kR ?_; refine gr rfl (rvC rfl (lvb rfl rfl) rv0) (⟨_, _⟩) rfl Ent.nil ?_)
     | (refine kR ?_; refine gr rfl (rvC rfl (lvB rfl rfl rfl) rv0) (⟨_, _⟩) rfl Ent.nil ?_)
     | (refine Pre.mk ?_; first | exact True.intro | omega | ((repeat' (first | refine And.intro ?_ ?_ | exact True.intro | assumption | omega)); done) | (simp only [and_true, true_and, or_true, true_or]; first | done | omega))
     | (refine kD ?_; first | exact dm_none))
    rename_i s'
    refine gnl2 (i + 1) s' (by repeat (first | exact trivial | refine ⟨rfl, ?_⟩)) ?_ (by omega) (by omega)
    rw [stripL_step hlt]
    exact er (eb (eb (eb Ent.nil)))
  · obtain rfl : i = ins.length := by omega
    repeat' (first
     | (refine kO ?_; first | refine gv rfl rfl ?_ | refine gnil ?_ | refine gl rfl (lvb rfl rfl) rfl (fun _ => ?_) | refine gl rfl (lvB rfl rfl rfl) rfl (fun _ => ?_) | refine gl rfl (lve rfl rfl) rfl (fun _ => ?_) | refine gl rfl (lvE rfl rfl rfl) rfl (fun _ => ?_) | refine gl rfl (lva rfl rfl rfl rfl rfl) rfl (fun _ => ?_) | refine gp rfl (by (try simp only [InR]); omega) rfl ?_ | refine gf rfl rfl rfl ?_ | refine gix rfl rfl rfl rfl (by omega) rfl (fun _ => ?_) | refine gixa rfl rfl rfl rfl (by omega) rfl (fun _ => ?_) | (refine kK ?_; first | refine gcall rfl ?_ rfl (fun _ _ => ?_) (fun _ _ => ?_) | refine gcv rfl rfl ?_ rfl (fun _ _ => ?_) (fun _ _ => ?_)) | refine gbu rfl rfl rfl rfl rfl ?_ | refine gx rfl rfl (fun _ => ?_) (fun _ => ?_) | refine ga rfl (fun _ => ?_) (fun _ => ?_) | refine gst rfl rfl rfl rfl ?_ ?_ | refine ge rfl rfl rfl rfl ?_ ?_ | refine gea rfl rfl rfl rfl rfl rfl rfl ?_ ?_ | refine gap rfl rfl rfl (by omega) rfl (fun _ => ?_) (fun _ => ?_) | refine gan rfl rfl rfl (by omega) rfl (fun _ => ?_) (fun _ => ?_) | refine gapz rfl rfl rfl rfl (by omega) rfl (fun _ => ?_) (fun _ => ?_) | refine ganz rfl rfl rfl rfl (by omega) rfl (fun _ => ?_) (fun _ => ?_) | refine gbs RB rfl rfl rfl rfl rfl rfl (fun _ => ?_) (fun _ => ?_) | refine gbb rfl rfl rfl (by first | (simp; done) | (simp only [and_true]; omega)) rfl rfl rfl rfl (fun _ => ?_) (fun _ => ?_) | refine gw rfl rfl ?_)
     | (refine kC ?_; first | refine gseq ?_ | refine greg ?_ | refine gret ?_ | refine gskip ?_ | (refine gcond rfl (fun h => ?_) (fun h => ?_) <;> (first | exact h.elim | (exfalso; omega) | exact absurd h (by assumption) | exact absurd (by assumption) h | skip)) | refine gblk ?_ | refine gexit ?_)
     | (refine kN ?_; first | refine gthen ?_ | refine gnblk ?_)
     | (refine kR ?_; first | refine grs ?_ | refine grb ?_ | refine grl ?_ | refine grc ?_)
     | (refine kX ?_; first | refine gxs ?_ | refine gxb ?_ | refine gxn rfl ?_ | refine gxl ?_ | refine gxc ?_)
     | (refine kR ?_; refine gr rfl (rvC rfl (lvb rfl rfl) rv0) (⟨_, _⟩) rfl Ent.nil ?_)
     | (refine kR ?_; refine gr rfl (rvC rfl (lvB rfl rfl rfl) rv0) (⟨_, _⟩) rfl Ent.nil ?_)
     | (refine Pre.mk ?_; first | exact True.intro | omega | ((repeat' (first | refine And.intro ?_ ?_ | exact True.intro | assumption | omega)); done) | (simp only [and_true, true_and, or_true, true_or]; first | done | omega))
     | (refine kD ?_; first | exact dm_none))
    rw [List.take_length]
    refine gr rfl (rvC rfl (lvB rfl rfl rfl) rv0) _ rfl (er Ent.nil) trivial
instance c_tx_stripped {insA : Option Addr} {insc insn : Nat} {ins : List InG} {outsA : Option Addr} {outsn outsc : Nat} {after : Int} {w0 : World} {X : Nat → Prop} {L : List Assn} [hins : Rw w0 X L (.slice insA insn insc) RIn ins] [q_ins : InsR w0 X L ins] :
    Ctr Tryd.prog 46 [Ag [.one (.slice insA insn insc), .one (.slice outsA outsn outsc), .one (.int .u32 after)]] w0 X L (ins.length ≤ 1099511627776) (fun s : Sv => Ag [.one (.slice s.A (stripL ins).length s.c), .one (.slice outsA outsn outsc), .one (.int .u32 after)]) (fun s => rw_ 46 RIn s (stripL ins).length (stripL ins) :: L) (fun s => True) :=
  ctr' (val := fun s : Sv => Ag [.one (.slice s.A (stripL ins).length s.c), .one (.slice outsA outsn outsc), .one (.int .u32 after)]) (M := fun s => [rw_ 46 RIn s (stripL ins).length (stripL ins)]) (M' := fun s => [rw_ 46 RIn s (stripL ins).length (stripL ins)]) (by kernel_rfl) (fun hp w hw => by have el := hins.len hw; subst el; rw [stripL_len]; exact tx_stripped insA insc ins outsA outsn outsc after w (hins.get w hw) (q_ins.get w hw) hp) (by rintro _ s _ ok; exact ⟨s, rfl, rfl, trivial⟩)
/-- what is signed -/
@[reducible] def DgOk (ins : List InG) (outs : List OutG) (after k v : Int) (lock : List UInt8) : Prop := mayO v lock ∧ TxMay ins outs after ∧ 0 ≤ k ∧ k < ins.length
def dgL (ins : List InG) (outs : List OutG) (after k : Int) (cl : List UInt8) : List UInt8 := txB (stripL ins) outs after ++ putL k 2 ++ cl
def dgH (ins : List InG) (outs : List OutG) (after k : Int) (tx : List UInt8) (m ht v : Int) (base : Bool) (lock : List UInt8) : Hsh := if DgOk ins outs after k v lock then sha2 (dgL ins outs after k (coinL tx m ht v base lock)) else zH
def dgE (ins : List InG) (outs : List OutG) (after k v : Int) (lock : List UInt8) : Int := if DgOk ins outs after k v lock then 0 else 2
theorem tx_Digest (insA : Option Addr) (insc : Nat) (ins : List InG) (outsA : Option Addr) (outsc : Nat) (outs : List OutG) (after : Int) (k : Int) (tx : List UInt8) [htx : LenIs tx 32] (m : Int) (ht : Int) (v : Int) (base : Bool) (lockA : Option Addr) (lockc : Nat) (lock : List UInt8) (w0 : World) (hK : KOk w0) (hins : Slr w0 RIn (.slice insA ins.length insc) ins) (q_ins : InsP w0 ins) (houts : Slr w0 ROut (.slice outsA outs.length outsc) outs) (q_outs : OutsP w0 outs) (hlock : Slr w0 RB (.slice lockA lock.length lockc) lock) (hp : (0 ≤ after ∧ after ≤ 4294967295) ∧ InsN ins ∧ OutsN outs ∧ (0 ≤ m ∧ m ≤ 65535 ∧ 0 ≤ ht ∧ ht ≤ 4294967295 ∧ 0 ≤ v ∧ v ≤ 18446744073709551615)) :
    Ct Tryd.prog 22 [Ag [.one (.slice insA ins.length insc), .one (.slice outsA outs.length outsc), .one (.int .u32 after)], .int .i64 k, Ag [.blk 32 (RB.all tx), .one (.int .u16 m), .one (.int .u32 ht), .one (.int .u64 v), .one (.bool base), .one (.slice lockA lock.length lockc)]] w0 no (fun ((e0, e1) : List UInt8 × Int) => .tuple #[Ag [.blk 32 (RB.all e0)], .int .i64 e1]) (fun (e0, e1) => []) (fun (e0, e1) => e0 = (dgH ins outs after k tx m ht v base lock).l ∧ e1 = dgE ins outs after k v lock) := by
  have hst := St.start w0
  have j_hK := KR.old hK
  have i_ins := Rw.old hins
  have j_ins := InsR.old q_ins
  have i_outs := Rw.old houts
  have j_outs := OutsR.old q_outs
  have i_lock := Rw.old hlock
  refine genter _ hst Tryd.func22 rfl rfl rfl rfl ?_
  obtain ⟨hp1, hn1, hn2, hp2⟩ := hp
  have hsl := stripL_len ins
  by_cases hd : DgOk ins outs after k v lock
  · obtain ⟨d1, d2, d3, d4⟩ := hd
    have hd : DgOk ins outs after k v lock := ⟨d1, d2, d3, d4⟩
    obtain ⟨m1, m2, m3, m4, m5⟩ := d2
    have d2 : TxMay ins outs after := ⟨m1, m2, m3, m4, m5⟩
    have e1 : dgE ins outs after k v lock = 0 := if_pos hd
    have e2 : dgH ins outs after k tx m ht v base lock = sha2 (dgL ins outs after k (coinL tx m ht v base lock)) := if_pos hd
    have e3 : outE v lock = 0 := if_pos d1
    have hsn := stripL_n hn1
    have hso := stripL_ok ins
    have hfit : Fit k 2 := ⟨d3, .inl ⟨rfl, by omega⟩⟩
    have hpl := putL_len hfit
    have hcl := coinL_len (tx := tx) (n := m) (ht := ht) (v := v) (base := base) (lock := lock) htx.h (by omega)
    have hb := txB_len hso m4 hsn hn2 (by rw [hsl]; exact ⟨m1, m2, hp1.1, hp1.2⟩)
    have hcat : ∀ s1 s2 s3 : Sv, (catL [(s1, if OutsOk outs then txB (stripL ins) outs after else []), (s2, putL k 2), (s3, coinL tx m ht v base lock)]).length ≤ 140737488351232 := fun s1 s2 s3 => by
      rw [if_pos m4]
      simp only [catL, List.flatMap_cons, List.flatMap_nil, List.length_append, List.length_nil]; omega
    have hcat2 : ∀ s1 s2 s3 : Sv, catL [(s1, if OutsOk outs then txB (stripL ins) outs after else []), (s2, putL k 2), (s3, coinL tx m ht v base lock)] = dgL ins outs after k (coinL tx m ht v base lock) := fun s1 s2 s3 => by
      rw [if_pos m4]
      simp only [catL, List.flatMap_cons, List.flatMap_nil, List.append_nil, dgL, List.append_assoc]
    rw [e1, e2]
    repeat' (first
     | (refine kO ?_; first | refine gba0 rfl rfl rfl ?_ | refine gbs RBs rfl rfl rfl rfl rfl rfl (fun _ => ?_) (fun _ => ?_) | refine gv rfl rfl ?_ | refine gnil ?_ | refine gl rfl (lvb rfl rfl) rfl (fun _ => ?_) | refine gl rfl (lvB rfl rfl rfl) rfl (fun _ => ?_) | refine gl rfl (lve rfl rfl) rfl (fun _ => ?_) | refine gl rfl (lvE rfl rfl rfl) rfl (fun _ => ?_) | refine gl rfl (lva rfl rfl rfl rfl rfl) rfl (fun _ => ?_) | refine gp rfl (by (try simp only [InR]); omega) rfl ?_ | refine gf rfl rfl rfl ?_ | (refine kK ?_; first | refine gcall rfl ?_ rfl (fun _ _ => ?_) (fun _ _ => ?_) | refine gcv rfl rfl ?_ rfl (fun _ _ => ?_) (fun _ _ => ?_)) | refine gneq rfl rfl (by kernel_rfl) ?_ rfl ?_ | refine gbu rfl rfl rfl rfl rfl ?_ | refine gx rfl rfl (fun _ => ?_) (fun _ => ?_) | refine ga rfl (fun _ => ?_) (fun _ => ?_) | refine gst rfl rfl rfl rfl ?_ ?_ | refine ge rfl rfl rfl rfl ?_ ?_ | refine gea rfl rfl rfl rfl rfl rfl rfl ?_ ?_ | refine gbs RB rfl rfl rfl rfl rfl rfl (fun _ => ?_) (fun _ => ?_) | refine gbb rfl rfl rfl (by first | (simp; done) | (simp only [and_true]; omega)) rfl rfl rfl rfl (fun _ => ?_) (fun _ => ?_) | refine gb rfl rfl rfl rfl ?_ | refine gw rfl rfl ?_ | (refine kg ?_; (first | refine guardT rfl rfl rfl rfl (fun h => ?_) (fun h => ?_) | refine guardF rfl rfl rfl rfl (fun h => ?_) (fun h => ?_) | refine guardU rfl rfl rfl rfl ?_ | refine guardTH rfl rfl rfl rfl ?_ (fun h => ?_) (fun h => ?_) | refine guardFH rfl rfl rfl rfl ?_ (fun h => ?_) (fun h => ?_) | refine guardUH rfl rfl rfl rfl ?_ ?_) <;> (first | exact h.elim | (exfalso; omega) | exact absurd h (by assumption) | exact absurd (by assumption) h | skip)))
     | (refine kC ?_; first | refine gseq ?_ | refine greg ?_ | refine gret ?_ | refine gskip ?_ | (refine gcond rfl (fun h => ?_) (fun h => ?_) <;> (first | exact h.elim | (exfalso; omega) | exact absurd h (by assumption) | exact absurd (by assumption) h | skip)))
     | (refine kN ?_; first | refine gthen ?_)
     | (refine kR ?_; first | refine grs ?_ | refine grc ?_)
     | (refine kR ?_; refine gr rfl (rvC rfl (lvb rfl rfl) (rvT rfl rv0)) (_, _) rfl Ent.nil ?_)
     | (refine kR ?_; refine gr rfl (rvC rfl (lvB rfl rfl rfl) (rvT rfl rv0)) (_, _) rfl Ent.nil ?_)
     | exact Pre.mk (hcat _ _ _)
     | (refine Pre.mk ?_; first | exact True.intro | omega | ((repeat' (first | refine And.intro ?_ ?_ | exact True.intro | assumption | omega)); done) | (simp only [and_true, true_and, or_true, true_or]; first | done | omega))
     | (refine kD ?_; first | exact dm_none))
    all_goals first | contradiction | (exfalso; omega) | (rw [hcat2]; exact ⟨rfl, rfl⟩) | skip
  · have e1 : dgE ins outs after k v lock = 2 := if_neg hd
    have e2 : dgH ins outs after k tx m ht v base lock = zH := if_neg hd
    rw [e1, e2]
    have hcs : ¬ outE v lock = 0 ∨ ¬ TxMay ins outs after ∨ k < 0 ∨ (ins.length : Int) ≤ k := by
      by_cases c1 : outE v lock = 0
      · by_cases c2 : TxMay ins outs after
        · by_cases c3 : k < 0
          · exact .inr (.inr (.inl c3))
          · by_cases c4 : (ins.length : Int) ≤ k
            · exact .inr (.inr (.inr c4))
            · exact absurd ⟨outE_0.1 c1, c2, by omega, by omega⟩ hd
        · exact .inr (.inl c2)
      · exact .inl c1
    rcases hcs with hcs | hcs | hcs | hcs
    · skip
      repeat' (first
       | (refine kO ?_; first | refine gba0 rfl rfl rfl ?_ | refine gv rfl rfl ?_ | refine gnil ?_ | refine gl rfl (lvb rfl rfl) rfl (fun _ => ?_) | refine gl rfl (lvB rfl rfl rfl) rfl (fun _ => ?_) | refine gl rfl (lve rfl rfl) rfl (fun _ => ?_) | refine gl rfl (lvE rfl rfl rfl) rfl (fun _ => ?_) | refine gl rfl (lva rfl rfl rfl rfl rfl) rfl (fun _ => ?_) | refine gp rfl (by (try simp only [InR]); omega) rfl ?_ | refine gf rfl rfl rfl ?_ | (refine kK ?_; first | refine gcall rfl ?_ rfl (fun _ _ => ?_) (fun _ _ => ?_) | refine gcv rfl rfl ?_ rfl (fun _ _ => ?_) (fun _ _ => ?_)) | refine gneq rfl rfl (by kernel_rfl) ?_ rfl ?_ | refine gbu rfl rfl rfl rfl rfl ?_ | refine gx rfl rfl (fun _ => ?_) (fun _ => ?_) | refine ga rfl (fun _ => ?_) (fun _ => ?_) | refine gst rfl rfl rfl rfl ?_ ?_ | refine ge rfl rfl rfl rfl ?_ ?_ | refine gea rfl rfl rfl rfl rfl rfl rfl ?_ ?_ | refine gbs RB rfl rfl rfl rfl rfl rfl (fun _ => ?_) (fun _ => ?_) | refine gbb rfl rfl rfl (by first | (simp; done) | (simp only [and_true]; omega)) rfl rfl rfl rfl (fun _ => ?_) (fun _ => ?_) | refine gb rfl rfl rfl rfl ?_ | refine gw rfl rfl ?_ | (refine kg ?_; (first | refine guardT rfl rfl rfl rfl (fun h => ?_) (fun h => ?_) | refine guardF rfl rfl rfl rfl (fun h => ?_) (fun h => ?_) | refine guardU rfl rfl rfl rfl ?_ | refine guardTH rfl rfl rfl rfl ?_ (fun h => ?_) (fun h => ?_) | refine guardFH rfl rfl rfl rfl ?_ (fun h => ?_) (fun h => ?_) | refine guardUH rfl rfl rfl rfl ?_ ?_) <;> (first | exact h.elim | (exfalso; omega) | exact absurd h (by assumption) | exact absurd (by assumption) h | skip)))
       | (refine kC ?_; first | refine gseq ?_ | refine greg ?_ | refine gret ?_ | refine gskip ?_ | (refine gcond rfl (fun h => ?_) (fun h => ?_) <;> (first | exact h.elim | (exfalso; omega) | exact absurd h (by assumption) | exact absurd (by assumption) h | skip)))
       | (refine kN ?_; first | refine gthen ?_)
       | (refine kR ?_; first | refine grs ?_ | refine grc ?_)
       | (refine kR ?_; refine gr rfl (rvC rfl (lvb rfl rfl) (rvT rfl rv0)) (_, _) rfl Ent.nil ?_)
       | (refine kR ?_; refine gr rfl (rvC rfl (lvB rfl rfl rfl) (rvT rfl rv0)) (_, _) rfl Ent.nil ?_)
       | (refine Pre.mk ?_; first | exact True.intro | omega | ((repeat' (first | refine And.intro ?_ ?_ | exact True.intro | assumption | omega)); done) | (simp only [and_true, true_and, or_true, true_or]; first | done | omega))
       | (refine kD ?_; first | exact dm_none))
      all_goals first | contradiction | (exfalso; omega) | exact ⟨rfl, rfl⟩ | skip
    · skip
      repeat' (first
       | (refine kO ?_; first | refine gba0 rfl rfl rfl ?_ | refine gv rfl rfl ?_ | refine gnil ?_ | refine gl rfl (lvb rfl rfl) rfl (fun _ => ?_) | refine gl rfl (lvB rfl rfl rfl) rfl (fun _ => ?_) | refine gl rfl (lve rfl rfl) rfl (fun _ => ?_) | refine gl rfl (lvE rfl rfl rfl) rfl (fun _ => ?_) | refine gl rfl (lva rfl rfl rfl rfl rfl) rfl (fun _ => ?_) | refine gp rfl (by (try simp only [InR]); omega) rfl ?_ | refine gf rfl rfl rfl ?_ | (refine kK ?_; first | refine gcall rfl ?_ rfl (fun _ _ => ?_) (fun _ _ => ?_) | refine gcv rfl rfl ?_ rfl (fun _ _ => ?_) (fun _ _ => ?_)) | refine gneq rfl rfl (by kernel_rfl) ?_ rfl ?_ | refine gbu rfl rfl rfl rfl rfl ?_ | refine gx rfl rfl (fun _ => ?_) (fun _ => ?_) | refine ga rfl (fun _ => ?_) (fun _ => ?_) | refine gst rfl rfl rfl rfl ?_ ?_ | refine ge rfl rfl rfl rfl ?_ ?_ | refine gea rfl rfl rfl rfl rfl rfl rfl ?_ ?_ | refine gbs RB rfl rfl rfl rfl rfl rfl (fun _ => ?_) (fun _ => ?_) | refine gbb rfl rfl rfl (by first | (simp; done) | (simp only [and_true]; omega)) rfl rfl rfl rfl (fun _ => ?_) (fun _ => ?_) | refine gb rfl rfl rfl rfl ?_ | refine gw rfl rfl ?_ | (refine kg ?_; (first | refine guardT rfl rfl rfl rfl (fun h => ?_) (fun h => ?_) | refine guardF rfl rfl rfl rfl (fun h => ?_) (fun h => ?_) | refine guardU rfl rfl rfl rfl ?_ | refine guardTH rfl rfl rfl rfl ?_ (fun h => ?_) (fun h => ?_) | refine guardFH rfl rfl rfl rfl ?_ (fun h => ?_) (fun h => ?_) | refine guardUH rfl rfl rfl rfl ?_ ?_) <;> (first | exact h.elim | (exfalso; omega) | exact absurd h (by assumption) | exact absurd (by assumption) h | skip)))
       | (refine kC ?_; first | refine gseq ?_ | refine greg ?_ | refine gret ?_ | refine gskip ?_ | (refine gcond rfl (fun h => ?_) (fun h => ?_) <;> (first | exact h.elim | (exfalso; omega) | exact absurd h (by assumption) | exact absurd (by assumption) h | skip)))
       | (refine kN ?_; first | refine gthen ?_)
       | (refine kR ?_; first | refine grs ?_ | refine grc ?_)
       | (refine kR ?_; refine gr rfl (rvC rfl (lvb rfl rfl) (rvT rfl rv0)) (_, _) rfl Ent.nil ?_)
       | (refine kR ?_; refine gr rfl (rvC rfl (lvB rfl rfl rfl) (rvT rfl rv0)) (_, _) rfl Ent.nil ?_)
       | (refine Pre.mk ?_; first | exact True.intro | omega | ((repeat' (first | refine And.intro ?_ ?_ | exact True.intro | assumption | omega)); done) | (simp only [and_true, true_and, or_true, true_or]; first | done | omega))
       | (refine kD ?_; first | exact dm_none))
      all_goals first | contradiction | (exfalso; omega) | exact ⟨rfl, rfl⟩ | skip
    · skip
      repeat' (first
       | (refine kO ?_; first | refine gba0 rfl rfl rfl ?_ | refine gv rfl rfl ?_ | refine gnil ?_ | refine gl rfl (lvb rfl rfl) rfl (fun _ => ?_) | refine gl rfl (lvB rfl rfl rfl) rfl (fun _ => ?_) | refine gl rfl (lve rfl rfl) rfl (fun _ => ?_) | refine gl rfl (lvE rfl rfl rfl) rfl (fun _ => ?_) | refine gl rfl (lva rfl rfl rfl rfl rfl) rfl (fun _ => ?_) | refine gp rfl (by (try simp only [InR]); omega) rfl ?_ | refine gf rfl rfl rfl ?_ | (refine kK ?_; first | refine gcall rfl ?_ rfl (fun _ _ => ?_) (fun _ _ => ?_) | refine gcv rfl rfl ?_ rfl (fun _ _ => ?_) (fun _ _ => ?_)) | refine gneq rfl rfl (by kernel_rfl) ?_ rfl ?_ | refine gbu rfl rfl rfl rfl rfl ?_ | refine gx rfl rfl (fun _ => ?_) (fun _ => ?_) | refine ga rfl (fun _ => ?_) (fun _ => ?_) | refine gst rfl rfl rfl rfl ?_ ?_ | refine ge rfl rfl rfl rfl ?_ ?_ | refine gea rfl rfl rfl rfl rfl rfl rfl ?_ ?_ | refine gbs RB rfl rfl rfl rfl rfl rfl (fun _ => ?_) (fun _ => ?_) | refine gbb rfl rfl rfl (by first | (simp; done) | (simp only [and_true]; omega)) rfl rfl rfl rfl (fun _ => ?_) (fun _ => ?_) | refine gb rfl rfl rfl rfl ?_ | refine gw rfl rfl ?_ | (refine kg ?_; (first | refine guardT rfl rfl rfl rfl (fun h => ?_) (fun h => ?_) | refine guardF rfl rfl rfl rfl (fun h => ?_) (fun h => ?_) | refine guardU rfl rfl rfl rfl ?_ | refine guardTH rfl rfl rfl rfl ?_ (fun h => ?_) (fun h => ?_) | refine guardFH rfl rfl rfl rfl ?_ (fun h => ?_) (fun h => ?_) | refine guardUH rfl rfl rfl rfl ?_ ?_) <;> (first | exact h.elim | (exfalso; omega) | exact absurd h (by assumption) | exact absurd (by assumption) h | skip)))
       | (refine kC ?_; first | refine gseq ?_ | refine greg ?_ | refine gret ?_ | refine gskip ?_ | (refine gcond rfl (fun h => ?_) (fun h => ?_) <;> (first | exact h.elim | (exfalso; omega) | exact absurd h (by assumption) | exact absurd (by assumption) h | skip)))
       | (refine kN ?_; first | refine gthen ?_)
       | (refine kR ?_; first | refine grs ?_ | refine grc ?_)
       | (refine kR ?_; refine gr rfl (rvC rfl (lvb rfl rfl) (rvT rfl rv0)) (_, _) rfl Ent.nil ?_)
       | (refine kR ?_; refine gr rfl (rvC rfl (lvB rfl rfl rfl) (rvT rfl rv0)) (_, _) rfl Ent.nil ?_)
       | (refine Pre.mk ?_; first | exact True.intro | omega | ((repeat' (first | refine And.intro ?_ ?_ | exact True.intro | assumption | omega)); done) | (simp only [and_true, true_and, or_true, true_or]; first | done | omega))
       | (refine kD ?_; first | exact dm_none))
      all_goals first | contradiction | (exfalso; omega) | exact ⟨rfl, rfl⟩ | skip
    · skip
      repeat' (first
       | (refine kO ?_; first | refine gba0 rfl rfl rfl ?_ | refine gv rfl rfl ?_ | refine gnil ?_ | refine gl rfl (lvb rfl rfl) rfl (fun _ => ?_) | refine gl rfl (lvB rfl rfl rfl) rfl (fun _ => ?_) | refine gl rfl (lve rfl rfl) rfl (fun _ => ?_) | refine gl rfl (lvE rfl rfl rfl) rfl (fun _ => ?_) | refine gl rfl (lva rfl rfl rfl rfl rfl) rfl (fun _ => ?_) | refine gp rfl (by (try simp only [InR]); omega) rfl ?_ | refine gf rfl rfl rfl ?_ | (refine kK ?_; first | refine gcall rfl ?_ rfl (fun _ _ => ?_) (fun _ _ => ?_) | refine gcv rfl rfl ?_ rfl (fun _ _ => ?_) (fun _ _ => ?_)) | refine gneq rfl rfl (by kernel_rfl) ?_ rfl ?_ | refine gbu rfl rfl rfl rfl rfl ?_ | refine gx rfl rfl (fun _ => ?_) (fun _ => ?_) | refine ga rfl (fun _ => ?_) (fun _ => ?_) | refine gst rfl rfl rfl rfl ?_ ?_ | refine ge rfl rfl rfl rfl ?_ ?_ | refine gea rfl rfl rfl rfl rfl rfl rfl ?_ ?_ | refine gbs RB rfl rfl rfl rfl rfl rfl (fun _ => ?_) (fun _ => ?_) | refine gbb rfl rfl rfl (by first | (simp; done) | (simp only [and_true]; omega)) rfl rfl rfl rfl (fun _ => ?_) (fun _ => ?_) | refine gb rfl rfl rfl rfl ?_ | refine gw rfl rfl ?_ | (refine kg ?_; (first | refine guardT rfl rfl rfl rfl (fun h => ?_) (fun h => ?_) | refine guardF rfl rfl rfl rfl (fun h => ?_) (fun h => ?_) | refine guardU rfl rfl rfl rfl ?_ | refine guardTH rfl rfl rfl rfl ?_ (fun h => ?_) (fun h => ?_) | refine guardFH rfl rfl rfl rfl ?_ (fun h => ?_) (fun h => ?_) | refine guardUH rfl rfl rfl rfl ?_ ?_) <;> (first | exact h.elim | (exfalso; omega) | exact absurd h (by assumption) | exact absurd (by assumption) h | skip)))
       | (refine kC ?_; first | refine gseq ?_ | refine greg ?_ | refine gret ?_ | refine gskip ?_ | (refine gcond rfl (fun h => ?_) (fun h => ?_) <;> (first | exact h.elim | (exfalso; omega) | exact absurd h (by assumption) | exact absurd (by assumption) h | skip)))
       | (refine kN ?_; first | refine gthen ?_)
       | (refine kR ?_; first | refine grs ?_ | refine grc ?_)
       | (refine kR ?_; refine gr rfl (rvC rfl (lvb rfl rfl) (rvT rfl rv0)) (_, _) rfl Ent.nil ?_)
       | (refine kR ?_; refine gr rfl (rvC rfl (lvB rfl rfl rfl) (rvT rfl rv0)) (_, _) rfl Ent.nil ?_)
       | (refine Pre.mk ?_; first | exact True.intro | omega | ((repeat' (first | refine And.intro ?_ ?_ | exact True.intro | assumption | omega)); done) | (simp only [and_true, true_and, or_true, true_or]; first | done | omega))
       | (refine kD ?_; first | exact dm_none))
      all_goals first | contradiction | (exfalso; omega) | exact ⟨rfl, rfl⟩ | skip
instance c_tx_Digest {insA : Option Addr} {insc insn : Nat} {ins : List InG} {outsA : Option Addr} {outsc outsn : Nat} {outs : List OutG} {after : Int} {k : Int} {tx : List UInt8} {m : Int} {ht : Int} {v : Int} {base : Bool} {lockA : Option Addr} {lockc lockn : Nat} {lock : List UInt8} {w0 : World} {X : Nat → Prop} {L : List Assn} [hK : KR w0 X L] [hins : Rw w0 X L (.slice insA insn insc) RIn ins] [q_ins : InsR w0 X L ins] [houts : Rw w0 X L (.slice outsA outsn outsc) ROut outs] [q_outs : OutsR w0 X L outs] [htx : LenIs tx 32] [hlock : Rw w0 X L (.slice lockA lockn lockc) RB lock] : Ctr Tryd.prog 22 [Ag [.one (.slice insA insn insc), .one (.slice outsA outsn outsc), .one (.int .u32 after)], .int .i64 k, Ag [.blk 32 (RB.all tx), .one (.int .u16 m), .one (.int .u32 ht), .one (.int .u64 v), .one (.bool base), .one (.slice lockA lockn lockc)]] w0 X L ((0 ≤ after ∧ after ≤ 4294967295) ∧ InsN ins ∧ OutsN outs ∧ (0 ≤ m ∧ m ≤ 65535 ∧ 0 ≤ ht ∧ ht ≤ 4294967295 ∧ 0 ≤ v ∧ v ≤ 18446744073709551615)) (fun _ : Unit => .tuple #[Ag [.blk 32 (RB.all (dgH ins outs after k tx m ht v base lock).l)], .int .i64 (dgE ins outs after k v lock)]) (fun _ : Unit => L) (fun _ : Unit => True) :=
  ctr' (M' := (fun _ : Unit => [])) (by kernel_rfl) (fun hp w hw => by have eins := hins.len hw; subst eins; have eouts := houts.len hw; subst eouts; have elock := hlock.len hw; subst elock; exact tx_Digest _ _ _ _ _ _ _ _ _ _ _ _ _ _ _ _ w (hK.get w hw) (hins.get w hw) (q_ins.get w hw) (houts.get w hw) (q_outs.get w hw) (hlock.get w hw) hp) (by rintro hp ⟨e0, e1⟩ ⟨rfl, rfl⟩ ok; exact ⟨(), rfl, rfl, trivial⟩)
end Go.Proofs.YtdbikdbogpofbaaDoor
