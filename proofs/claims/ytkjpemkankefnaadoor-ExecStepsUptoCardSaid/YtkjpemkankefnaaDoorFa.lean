/-
  Er + Eo + Es
-/
import Derived.Test.YtkjpemkankefnaaDoorEm
import Derived.Test.YtkjpemkankefnaaDoorEf
import Derived.Test.YtkjpemkankefnaaDoorEn
import Derived.Test.YtkjpemkankefnaaDoorEg
set_option linter.all false
set_option maxRecDepth 100000
set_option maxHeartbeats 4000000
/-!
  exec.Steps.
-/
namespace Go.Proofs.YtkjpemkankefnaaDoor
open Go.RowKit

/-! the machine's steps, plain -/
def oneM (m : MM) (x : Stp) (ht : Int) (dg : List UInt8) : MM :=
  if branchB x.1 = true then branchM m x.1 else if overB m = true then m else stepM m x.1 x.2 ht dg
def stepsG (ht : Int) (dg : List UInt8) : List Stp → MM → MM
  | [], m => m
  | x :: l, m => if m.e = 0 then stepsG ht dg l (oneM m x ht dg) else m
def resM (m : MM) : List (List UInt8) × Int := if m.e = 0 ∧ m.ps = [] then (m.st, 0) else ([], 8)
def stepsX (l : List Stp) (st : List (List UInt8)) (ht : Int) (dg : List UInt8) : List (List UInt8) × Int :=
  if putSE l = 0 then resM (stepsG ht dg l (pushM ⟨[], [], 0⟩ st)) else ([], 8)
theorem branchM_no {m : MM} {op : Int} (h : branchB op = false) : branchM m op = m := by
  have := of_decide_eq_false h
  unfold branchM; rw [if_neg (by omega), if_neg (by omega), if_neg (by omega)]
theorem hashM_ps {m : MM} {op ht : Int} {dg : List UInt8} : (hashM m op ht dg).ps = m.ps := by
  unfold hashM
  split
  · rw [pushM_ps, popM_ps]
  · split
    · rw [pushM_ps, popM_ps]
    · split
      · rw [pushM_ps, popM_ps]
      · split
        · rw [failM_ps, numM_ps, popM_ps]
        · rfl
theorem stepM_ps {m : MM} {op ht : Int} {u dg : List UInt8} : (stepM m op u ht dg).ps = m.ps := by
  unfold stepM
  repeat' (first | (rw [pushM_ps]) | (rw [failM_ps]) | (rw [numM_ps]) | (rw [popM_ps]) | (rw [hashM_ps]) | split)
theorem putSE_0 {l : List Stp} (h : putSE l = 0) : MayL l ∧ l.length ≤ 200 := by
  unfold putSE at h
  split at h
  · cases h
  · split at h
    · cases h
    · rename_i h1 h2; exact ⟨Classical.not_not.1 h1, by omega⟩
theorem putSE_1 {l : List Stp} : putSE l = 0 → l.length ≤ 200 := fun h => (putSE_0 h).2
section
variable {P : Program} {n : Nat} {w0 : World} {X : Nat → Prop} {Q : Cont} {E : Env} {L L1 : List Assn} {s : Ms} {ops : Array Oper} {l : List Oper}
/-- a machine that is new -/
theorem gmch0 {g : Nat} {ht : Int} {dg : List UInt8} (i : Nat) (hx : eget E i = some (.pointer (some ⟨g, 0, none⟩))) [hb : FBox L g 57 [.one (.slice none 0 0), .one (.slice none 0 0), .one (.int .u32 ht), .blk 32 (RB.all dg), .one (.int .i64 0)]] [hp : Pk L (boxA g 57 [.one (.slice none 0 0), .one (.slice none 0 0), .one (.int .u32 ht), .blk 32 (RB.all dg), .one (.int .i64 0)]) L1]
    (k : ∀ m : MG, m.ab = ⟨[], [], 0⟩ → GO P n w0 X s ops l Q E (boxA g 57 [Cs.one (Value.slice (Sv.A m.st) (List.length m.gs) (Sv.c m.st)), Cs.one (Value.slice (Sv.A m.pt) (List.length m.ps) (Sv.c m.pt)), Cs.one (Value.int IntKind.u32 ht), Cs.blk 32 (Rep.all RB dg), Cs.one (Value.int IntKind.i64 m.e)] :: rw_ 22 RBs m.st (List.length m.gs) m.gs :: lot (List.map bsRow m.gs) :: rw_ 80 RPt m.pt (List.length m.ps) (List.reverse m.ps) :: L1)) : GO P n w0 X s ops l Q E L := by
  refine go_mono (fun w hw => ?_) (k ⟨⟨none, 0⟩, [], ⟨none, 0⟩, [], 0, ⟨⟨by simp, fun c hc => by cases hc⟩⟩, ⟨fun x hx => by cases hx⟩⟩ rfl)
  have h : Ent L (boxA g 57 [.one (.slice none 0 0), .one (.slice none 0 0), .one (.int .u32 ht), .blk 32 (RB.all dg), .one (.int .i64 0)] :: rw_ 22 RBs ⟨none, 0⟩ 0 [] :: lot [] :: rw_ 80 RPt ⟨none, 0⟩ 0 [] :: L1) := eb (er0 (elot0 (er0 (Ent.refl _))))
  exact h.go _ _ _ hw
end
instance : ZS Tryd.prog 57 [.one (.slice none 0 0), .one (.slice none 0 0), .one (.int .u32 0), .blk 32 (RB.all (List.replicate 32 0)), .one (.int .i64 0)] := ⟨by kernel_rfl, by simp [okS, RB, Rep.all, flat, Cs.cells]⟩
theorem stepsG_e {l : List Stp} {m : MM} {ht : Int} {dg : List UInt8} (h : ¬ m.e = 0) : stepsG ht dg l m = m := by
  cases l with
  | nil => rfl
  | cons x l => rw [stepsG, if_neg h]
theorem resM_e {m : MM} (h : ¬ m.e = 0) : resM m = ([], 8) := by unfold resM; rw [if_neg (fun e => h e.1)]
theorem resM_p {m : MM} (h : ¬ m.ps = []) : resM m = ([], 8) := by unfold resM; rw [if_neg (fun e => h e.2)]
theorem stepsG_c {x : Stp} {l : List Stp} {m : MM} {ht : Int} {dg : List UInt8} (h : m.e = 0) : stepsG ht dg (x :: l) m = stepsG ht dg l (oneM m x ht dg) := by rw [stepsG, if_pos h]
theorem exec_Steps (lA : Option Addr) (lc : Nat) (l : List StG) (skA : Option Addr) (skc : Nat) (sk : List BsG) (ht : Int) (dg : List UInt8) [hdg : LenIs dg 32] (w0 : World) (hK : KOk w0) (hl : Slr w0 RSt (.slice lA l.length lc) l) (q_l : StP w0 l) (hsk : Slr w0 RBs (.slice skA sk.length skc) sk) (q_sk : BsP w0 sk) (hp : StN l ∧ (0 ≤ ht ∧ ht ≤ 4294967295) ∧ sk.length ≤ 1000000 ∧ ∀ b ∈ sk, b.2.length ≤ 140737488351232) :
    Ct Tryd.prog 14 [.slice lA l.length lc, .slice skA sk.length skc, Ag [.one (.int .u32 ht), .blk 32 (RB.all dg)]] w0 no (fun ((o0, e1) : Ow BsG × Int) => .tuple #[.slice o0.s.A o0.gs.length o0.s.c, .int .i64 e1]) (fun (o0, e1) => [rw_ 22 RBs o0.s o0.gs.length o0.gs, lot (o0.gs.map bsRow)]) (fun (o0, e1) => o0.gs.map bsK = (stepsX (l.map stK) (sk.map bsK) ht dg).1 ∧ e1 = (stepsX (l.map stK) (sk.map bsK) ht dg).2) := by
  have hst := St.start w0
  have j_hK := KR.old hK
  have i_l := Rw.old hl
  have j_l := StR.old q_l
  have i_sk := Rw.old hsk
  have j_sk := BsR.old q_sk
  refine genter _ hst Tryd.func14 rfl rfl rfl rfl ?_
  have hcap := hl.cap
  repeat' (first
   | (refine kO ?_; first | refine gv rfl rfl ?_ | refine gnil ?_ | refine gl rfl (lvb rfl rfl) rfl (fun _ => ?_) | refine gl rfl (lvB rfl rfl rfl) rfl (fun _ => ?_) | refine gl rfl (lve rfl rfl) rfl (fun _ => ?_) | refine gl rfl (lvE rfl rfl rfl) rfl (fun _ => ?_) | refine gl rfl (lva rfl rfl rfl rfl rfl) rfl (fun _ => ?_) | refine gp rfl (by (try simp only [InR]); omega) rfl ?_ | refine gf rfl rfl rfl ?_ | refine gix rfl rfl rfl rfl (by omega) rfl (fun _ => ?_) | refine gixa rfl rfl rfl rfl (by omega) rfl (fun _ => ?_) | (refine kK ?_; first | refine gcall rfl ?_ rfl (fun _ _ => ?_) (fun _ _ => ?_) | refine gcv rfl rfl ?_ rfl (fun _ _ => ?_) (fun _ _ => ?_) | refine gcc1 rfl rfl ?_ rfl (fun _ _ => ?_) (fun _ _ => ?_)) | refine geql rfl rfl (by kernel_rfl) ?_ rfl ?_ | refine gneq rfl rfl (by kernel_rfl) ?_ rfl ?_ | refine gbu rfl rfl rfl rfl rfl ?_ | refine gx rfl rfl (fun _ => ?_) (fun _ => ?_) | refine ga rfl (fun _ => ?_) (fun _ => ?_) | refine gst rfl rfl rfl rfl ?_ ?_ | refine ge rfl rfl rfl rfl ?_ ?_ | refine gea rfl rfl rfl rfl rfl rfl rfl ?_ ?_ | refine gw rfl rfl ?_ | (refine kg ?_; (first | refine guardT rfl rfl rfl rfl (fun h => ?_) (fun h => ?_) | refine guardF rfl rfl rfl rfl (fun h => ?_) (fun h => ?_) | refine guardU rfl rfl rfl rfl ?_ | refine guardTH rfl rfl rfl rfl ?_ (fun h => ?_) (fun h => ?_) | refine guardFH rfl rfl rfl rfl ?_ (fun h => ?_) (fun h => ?_) | refine guardUH rfl rfl rfl rfl ?_ ?_) <;> (first | exact h.elim | (exfalso; omega) | exact absurd h (by assumption) | exact absurd (by assumption) h | skip)))
   | (refine kC ?_; first | refine gseq ?_ | refine greg ?_ | refine gret ?_ | refine gskip ?_ | (refine gcond rfl (fun h => ?_) (fun h => ?_) <;> (first | exact h.elim | (exfalso; omega) | exact absurd h (by assumption) | exact absurd (by assumption) h | skip)) | refine gblk ?_ | refine gexit ?_ | refine glab ?_ | refine ggoto ?_)
   | (refine kN ?_; first | refine gthen ?_ | refine gnblk ?_ | refine gns1 ?_ | refine gns2 ?_)
   | (refine kJ ?_; first | refine gjs ?_ | refine gjb ?_ | refine gjl ?_ | refine gjl2 ?_ | refine gjl3 ?_ | refine gjc ?_)
   | (refine kR ?_; first | refine grs1 ?_ | refine grs2 ?_ | refine grs ?_ | refine grb ?_ | refine grl ?_ | refine grc ?_)
   | (refine kX ?_; first | refine gxs ?_ | refine gxb ?_ | refine gxn rfl ?_ | refine gxl ?_ | refine gxc ?_ | refine gxs1 ?_ | refine gxs2 ?_)
   | (refine kR ?_; refine gr rfl (rvT rfl (rvT rfl rv0)) (⟨⟨_, _⟩, _⟩, _) rfl (er (elot Ent.nil)) ?_)
   | (refine kR ?_; refine gr rfl (rvT rfl (rvT rfl rv0)) (⟨⟨none, 0⟩, []⟩, _) rfl (er0 (elot0 Ent.nil)) ?_)
   | (refine Pre.mk ?_; first | exact True.intro | omega | ((repeat' (first | refine And.intro ?_ ?_ | exact True.intro | assumption | omega)); done) | (simp only [and_true, true_and, or_true, true_or]; first | done | omega))
   | (refine kD ?_; first | exact dm_none))
  refine gscope1 (σ := Unit) 0 [] (fun _ K => K) (fun _ => []) (fun _ => stepsX (l.map stK) (sk.map bsK) ht dg = ([], 8)) (fun _ => 0) 1 rfl rfl (fun flow => ?_) (fun _ hf => ?_)
  · have hlen := putSE_1 (l := l.map stK)
    rw [List.length_map] at hlen
    have hno : ¬ putSE (l.map stK) = 0 → stepsX (l.map stK) (sk.map bsK) ht dg = ([], 8) := fun h => by unfold stepsX; rw [if_neg h]
    repeat' (first
     | (refine kO ?_; first | refine gmch0 8 rfl (fun m hm => ?_) | refine gv rfl rfl ?_ | refine gnil ?_ | refine gl rfl (lvb rfl rfl) rfl (fun _ => ?_) | refine gl rfl (lvB rfl rfl rfl) rfl (fun _ => ?_) | refine gl rfl (lve rfl rfl) rfl (fun _ => ?_) | refine gl rfl (lvE rfl rfl rfl) rfl (fun _ => ?_) | refine gl rfl (lva rfl rfl rfl rfl rfl) rfl (fun _ => ?_) | refine gp rfl (by (try simp only [InR]); omega) rfl ?_ | refine gf rfl rfl rfl ?_ | refine gix rfl rfl rfl rfl (by omega) rfl (fun _ => ?_) | refine gixa rfl rfl rfl rfl (by omega) rfl (fun _ => ?_) | (refine kK ?_; first | refine gcall rfl ?_ rfl (fun _ _ => ?_) (fun _ _ => ?_) | refine gcv rfl rfl ?_ rfl (fun _ _ => ?_) (fun _ _ => ?_) | refine gcc1 rfl rfl ?_ rfl (fun _ _ => ?_) (fun _ _ => ?_)) | refine geql rfl rfl (by kernel_rfl) ?_ rfl ?_ | refine gneq rfl rfl (by kernel_rfl) ?_ rfl ?_ | refine gbu rfl rfl rfl rfl rfl ?_ | refine gx rfl rfl (fun _ => ?_) (fun _ => ?_) | refine ga rfl (fun _ => ?_) (fun _ => ?_) | refine gst rfl rfl rfl rfl ?_ ?_ | refine ge rfl rfl rfl rfl ?_ ?_ | refine gea rfl rfl rfl rfl rfl rfl rfl ?_ ?_ | refine gw rfl rfl ?_ | (refine kg ?_; (first | refine guardT rfl rfl rfl rfl (fun h => ?_) (fun h => ?_) | refine guardF rfl rfl rfl rfl (fun h => ?_) (fun h => ?_) | refine guardU rfl rfl rfl rfl ?_ | refine guardTH rfl rfl rfl rfl ?_ (fun h => ?_) (fun h => ?_) | refine guardFH rfl rfl rfl rfl ?_ (fun h => ?_) (fun h => ?_) | refine guardUH rfl rfl rfl rfl ?_ ?_) <;> (first | exact h.elim | (exfalso; omega) | exact absurd h (by assumption) | exact absurd (by assumption) h | skip)))
     | (refine kC ?_; first | refine gseq ?_ | refine greg ?_ | refine gret ?_ | refine gskip ?_ | (refine gcond rfl (fun h => ?_) (fun h => ?_) <;> (first | exact h.elim | (exfalso; omega) | exact absurd h (by assumption) | exact absurd (by assumption) h | skip)) | refine gblk ?_ | refine gexit ?_ | refine ggoto ?_)
     | (refine kN ?_; first | refine gthen ?_ | refine gnblk ?_ | refine gns1 ?_ | refine gns2 ?_)
     | (refine kJ ?_; first | refine gjs ?_ | refine gjb ?_ | refine gjl ?_ | refine gjl2 ?_ | refine gjl3 ?_ | refine gjc ?_)
     | (refine kR ?_; first | refine grs1 ?_ | refine grs2 ?_ | refine grs ?_ | refine grb ?_ | refine grl ?_ | refine grc ?_)
     | (refine kX ?_; first | refine gxs ?_ | refine gxb ?_ | refine gxn rfl ?_ | refine gxl ?_ | refine gxc ?_ | refine gxs1 ?_ | refine gxs2 ?_)
     | (refine kR ?_; refine gr rfl (rvT rfl (rvT rfl rv0)) (⟨⟨_, _⟩, _⟩, _) rfl (er (elot Ent.nil)) ?_)
     | (refine kR ?_; refine gr rfl (rvT rfl (rvT rfl rv0)) (⟨⟨none, 0⟩, []⟩, _) rfl (er0 (elot0 Ent.nil)) ?_)
     | exact Pre.mk hp.1
     | exact Pre.mk ⟨hp.2.2.1, hp.2.2.2⟩
     | (refine Pre.mk ?_; first | exact True.intro | omega | ((repeat' (first | refine And.intro ?_ ?_ | exact True.intro | assumption | omega)); done) | (simp only [and_true, true_and, or_true, true_or]; first | done | omega))
     | (refine kD ?_; first | exact dm_none))
    · exact gj1 () trivial Ent.nil (hno h) (by omega)
    rename_i gE _ g sv _ m1 hm1
    have hmay := (putSE_0 h).1
    have eX : stepsX (l.map stK) (sk.map bsK) ht dg = resM (stepsG ht dg (l.map stK) m1.ab) := by
      unfold stepsX; rw [if_pos h, hm1.1, show abM m.gs m.ps m.e = _ from hm]
    have hps : m1.ps.length = 0 := by rw [hm1.2]; have := congrArg (fun t => t.ps.length) hm; exact this
    rw [eX] at flow ⊢
    refine gloop2 [8, 26, 27] (fun (i : Nat) (m : MG) K => (28, .int .i64 i) :: K) (fun i m => (boxA g 57 [Cs.one (Value.slice (Sv.A m.st) (List.length m.gs) (Sv.c m.st)), Cs.one (Value.slice (Sv.A m.pt) (List.length m.ps) (Sv.c m.pt)), Cs.one (Value.int IntKind.u32 ht), Cs.blk 32 (Rep.all RB dg), Cs.one (Value.int IntKind.i64 m.e)] :: rw_ 22 RBs m.st (List.length m.gs) m.gs :: lot (List.map bsRow m.gs) :: rw_ 80 RPt m.pt (List.length m.ps) (List.reverse m.ps) :: ([]))) (fun i m => i ≤ l.length ∧ m.ps.length ≤ i ∧ stepsG ht dg (l.map stK) m1.ab = stepsG ht dg ((l.drop i).map stK) m.ab) (fun i m => l.length - i) 0 m1 rfl (by repeat (first | exact trivial | refine ⟨rfl, ?_⟩)) (eml Ent.nil) ⟨by omega, by omega, rfl⟩ (fun i m hi => ?_)
    obtain ⟨i1, i2, i3⟩ := hi
    have hto := fun h => StN.at hp.1 (i := (i : Int)) ⟨by omega, h⟩
    have hmy := fun h => mayL_at hmay (i := (i : Int)) ⟨by omega, h⟩
    have hpu : (i : Int) < l.length → (ixd l (i : Int)).push.length ≤ 100000 := fun h => by have := hmy h; unfold mayS at this; split at this <;> omega
    have hd : ∀ h : (i : Int) < l.length, (l.drop i).map stK = stK (ixd l (i : Int)) :: (l.drop (i + 1)).map stK := fun h => by rw [List.drop_eq_getElem_cons (by omega), ixd_eq (by omega)]; rfl
    have hl200 := hlen h
    repeat' (first
     | (refine kO ?_; first | refine gv rfl rfl ?_ | refine gnil ?_ | refine gl rfl (lvb rfl rfl) rfl (fun _ => ?_) | refine gl rfl (lvB rfl rfl rfl) rfl (fun _ => ?_) | refine gl rfl (lve rfl rfl) rfl (fun _ => ?_) | refine gl rfl (lvE rfl rfl rfl) rfl (fun _ => ?_) | refine gl rfl (lva rfl rfl rfl rfl rfl) rfl (fun _ => ?_) | refine gp rfl (by (try simp only [InR]); omega) rfl ?_ | refine gf rfl rfl rfl ?_ | refine gix rfl rfl rfl rfl (by omega) rfl (fun _ => ?_) | refine gixa rfl rfl rfl rfl (by omega) rfl (fun _ => ?_) | (refine kK ?_; first | refine gcall rfl ?_ rfl (fun _ _ => ?_) (fun _ _ => ?_) | refine gcv rfl rfl ?_ rfl (fun _ _ => ?_) (fun _ _ => ?_) | refine gcc1 rfl rfl ?_ rfl (fun _ _ => ?_) (fun _ _ => ?_)) | refine geql rfl rfl (by kernel_rfl) ?_ rfl ?_ | refine gneq rfl rfl (by kernel_rfl) ?_ rfl ?_ | refine gbu rfl rfl rfl rfl rfl ?_ | refine gx rfl rfl (fun _ => ?_) (fun _ => ?_) | refine ga rfl (fun _ => ?_) (fun _ => ?_) | refine gst rfl rfl rfl rfl ?_ ?_ | refine ge rfl rfl rfl rfl ?_ ?_ | refine gea rfl rfl rfl rfl rfl rfl rfl ?_ ?_ | refine gw rfl rfl ?_ | (refine kg ?_; (first | refine guardT rfl rfl rfl rfl (fun h => ?_) (fun h => ?_) | refine guardF rfl rfl rfl rfl (fun h => ?_) (fun h => ?_) | refine guardU rfl rfl rfl rfl ?_ | refine guardTH rfl rfl rfl rfl ?_ (fun h => ?_) (fun h => ?_) | refine guardFH rfl rfl rfl rfl ?_ (fun h => ?_) (fun h => ?_) | refine guardUH rfl rfl rfl rfl ?_ ?_) <;> (first | exact h.elim | (exfalso; omega) | exact absurd h (by assumption) | exact absurd (by assumption) h | skip)))
     | (refine kC ?_; first | refine gseq ?_ | refine greg ?_ | refine gret ?_ | refine gskip ?_ | (refine gcond rfl (fun h => ?_) (fun h => ?_) <;> (first | exact h.elim | (exfalso; omega) | exact absurd h (by assumption) | exact absurd (by assumption) h | skip)) | refine gblk ?_ | refine gexit ?_ | refine ggoto ?_)
     | (refine kN ?_; first | refine gthen ?_ | refine gnblk ?_ | refine gns1 ?_ | refine gns2 ?_)
     | (refine kJ ?_; first | refine gjs ?_ | refine gjb ?_ | refine gjl ?_ | refine gjl2 ?_ | refine gjl3 ?_ | refine gjc ?_)
     | (refine kR ?_; first | refine grs1 ?_ | refine grs2 ?_ | refine grs ?_ | refine grb ?_ | refine grl ?_ | refine grc ?_)
     | (refine kX ?_; first | refine gxs ?_ | refine gxb ?_ | refine gxn rfl ?_ | refine gxl ?_ | refine gxc ?_ | refine gxs1 ?_ | refine gxs2 ?_)
     | (refine kR ?_; refine gr rfl (rvT rfl (rvT rfl rv0)) (⟨⟨_, _⟩, _⟩, _) rfl (er (elot Ent.nil)) ?_)
     | (refine kR ?_; refine gr rfl (rvT rfl (rvT rfl rv0)) (⟨⟨none, 0⟩, []⟩, _) rfl (er0 (elot0 Ent.nil)) ?_)
     | exact Pre.mk ⟨hto (by assumption), by omega⟩
     | exact Pre.mk ⟨hto (by assumption), hp.2.1, by have := hpu (by assumption); omega⟩
     | (refine Pre.mk ?_; first | exact True.intro | omega | ((repeat' (first | refine And.intro ?_ ?_ | exact True.intro | assumption | omega)); done) | (simp only [and_true, true_and, or_true, true_or]; first | done | omega))
     | (refine kD ?_; first | exact dm_none))
    · exact gj1 () trivial Ent.nil (by rw [i3, stepsG_e (m := m.ab) h]; exact resM_e h) (by omega)
    · rename_i he _ ma ha hb _ mb hmb _ _ mc hmc
      have e1 : branchM (abM m.gs m.ps m.e) (ixd l (i : Int)).op = m.ab := branchM_no hb
      have e2 : abM ma.gs ma.ps ma.e = m.ab := ha.1.trans e1
      have e3 : abM mb.gs mb.ps mb.e = m.ab := hmb.1.trans e2
      refine gnl2 (i + 1) mc (by repeat (first | exact trivial | refine ⟨rfl, ?_⟩)) (eml Ent.nil) ⟨by omega, ?_, ?_⟩ (by omega)
      · have := ps_len hmc.1 stepM_ps
        rw [this]; show mb.ps.length ≤ _; omega
      · rw [i3, hd (by assumption), stepsG_c (m := m.ab) he]
        congr 1
        unfold oneM
        rw [if_neg (by rw [show (stK (ixd l (i : Int))).1 = (ixd l (i : Int)).op from rfl, hb]; decide)]
        rw [e2] at h
        rw [if_neg (by rw [h]; decide), hmc.1, e3]
    · rename_i he _ ma ha hb _ mb hmb _
      have e1 : branchM (abM m.gs m.ps m.e) (ixd l (i : Int)).op = m.ab := branchM_no hb
      have e2 : abM ma.gs ma.ps ma.e = m.ab := ha.1.trans e1
      refine gnl2 (i + 1) mb (by repeat (first | exact trivial | refine ⟨rfl, ?_⟩)) (eml Ent.nil) ⟨by omega, by omega, ?_⟩ (by omega)
      rw [i3, hd (by assumption), stepsG_c (m := m.ab) he]
      congr 1
      unfold oneM
      rw [if_neg (by rw [show (stK (ixd l (i : Int))).1 = (ixd l (i : Int)).op from rfl, hb]; decide)]
      rw [e2] at h
      rw [if_pos h, hmb.1, e2]
    · rename_i he _ ma ha hb _ _
      refine gnl2 (i + 1) ma (by repeat (first | exact trivial | refine ⟨rfl, ?_⟩)) (eml Ent.nil) ⟨by omega, by omega, ?_⟩ (by omega)
      rw [i3, hd (by assumption), stepsG_c (m := m.ab) he]
      congr 1
      unfold oneM
      rw [if_pos hb, ha.1]
    · have hf : resM (stepsG ht dg (l.map stK) m1.ab) = (m.ab.st, 0) := by
        rw [i3, List.drop_eq_nil_of_le (by omega)]
        show resM m.ab = _
        have h0 : m.ps.length = 0 := by omega
        unfold resM; rw [if_pos ⟨by assumption, List.eq_nil_of_length_eq_zero h0⟩]
      show _ = _ ∧ _ = _
      rw [hf]; exact ⟨rfl, rfl⟩
    · have hf : resM (stepsG ht dg (l.map stK) m1.ab) = ([], 8) := by
        rw [i3, List.drop_eq_nil_of_le (by omega)]
        show resM m.ab = _
        exact resM_p (fun e => by have e1 : m.ps = [] := e; rw [e1] at h; exact h rfl)
      exact flow () trivial Ent.nil hf (by omega)
    · have hf : resM (stepsG ht dg (l.map stK) m1.ab) = ([], 8) := by
        rw [i3, List.drop_eq_nil_of_le (by omega)]
        show resM m.ab = _
        exact resM_e (by assumption)
      exact flow () trivial Ent.nil hf (by omega)
  · skip
    repeat' (first
     | (refine kO ?_; first | refine gv rfl rfl ?_ | refine gnil ?_ | refine gl rfl (lvb rfl rfl) rfl (fun _ => ?_) | refine gl rfl (lvB rfl rfl rfl) rfl (fun _ => ?_) | refine gl rfl (lve rfl rfl) rfl (fun _ => ?_) | refine gl rfl (lvE rfl rfl rfl) rfl (fun _ => ?_) | refine gl rfl (lva rfl rfl rfl rfl rfl) rfl (fun _ => ?_) | refine gp rfl (by (try simp only [InR]); omega) rfl ?_ | refine gf rfl rfl rfl ?_ | refine gix rfl rfl rfl rfl (by omega) rfl (fun _ => ?_) | refine gixa rfl rfl rfl rfl (by omega) rfl (fun _ => ?_) | (refine kK ?_; first | refine gcall rfl ?_ rfl (fun _ _ => ?_) (fun _ _ => ?_) | refine gcv rfl rfl ?_ rfl (fun _ _ => ?_) (fun _ _ => ?_) | refine gcc1 rfl rfl ?_ rfl (fun _ _ => ?_) (fun _ _ => ?_)) | refine geql rfl rfl (by kernel_rfl) ?_ rfl ?_ | refine gneq rfl rfl (by kernel_rfl) ?_ rfl ?_ | refine gbu rfl rfl rfl rfl rfl ?_ | refine gx rfl rfl (fun _ => ?_) (fun _ => ?_) | refine ga rfl (fun _ => ?_) (fun _ => ?_) | refine gst rfl rfl rfl rfl ?_ ?_ | refine ge rfl rfl rfl rfl ?_ ?_ | refine gea rfl rfl rfl rfl rfl rfl rfl ?_ ?_ | refine gw rfl rfl ?_ | (refine kg ?_; (first | refine guardT rfl rfl rfl rfl (fun h => ?_) (fun h => ?_) | refine guardF rfl rfl rfl rfl (fun h => ?_) (fun h => ?_) | refine guardU rfl rfl rfl rfl ?_ | refine guardTH rfl rfl rfl rfl ?_ (fun h => ?_) (fun h => ?_) | refine guardFH rfl rfl rfl rfl ?_ (fun h => ?_) (fun h => ?_) | refine guardUH rfl rfl rfl rfl ?_ ?_) <;> (first | exact h.elim | (exfalso; omega) | exact absurd h (by assumption) | exact absurd (by assumption) h | skip)))
     | (refine kC ?_; first | refine gseq ?_ | refine greg ?_ | refine gret ?_ | refine gskip ?_ | (refine gcond rfl (fun h => ?_) (fun h => ?_) <;> (first | exact h.elim | (exfalso; omega) | exact absurd h (by assumption) | exact absurd (by assumption) h | skip)) | refine gblk ?_ | refine gexit ?_ | refine glab ?_ | refine ggoto ?_)
     | (refine kN ?_; first | refine gthen ?_ | refine gnblk ?_ | refine gns1 ?_ | refine gns2 ?_)
     | (refine kJ ?_; first | refine gjs ?_ | refine gjb ?_ | refine gjl ?_ | refine gjl2 ?_ | refine gjl3 ?_ | refine gjc ?_)
     | (refine kR ?_; first | refine grs1 ?_ | refine grs2 ?_ | refine grs ?_ | refine grb ?_ | refine grl ?_ | refine grc ?_)
     | (refine kX ?_; first | refine gxs ?_ | refine gxb ?_ | refine gxn rfl ?_ | refine gxl ?_ | refine gxc ?_ | refine gxs1 ?_ | refine gxs2 ?_)
     | (refine kR ?_; refine gr rfl (rvT rfl (rvT rfl rv0)) (⟨⟨_, _⟩, _⟩, _) rfl (er (elot Ent.nil)) ?_)
     | (refine kR ?_; refine gr rfl (rvT rfl (rvT rfl rv0)) (⟨⟨none, 0⟩, []⟩, _) rfl (er0 (elot0 Ent.nil)) ?_)
     | (refine Pre.mk ?_; first | exact True.intro | omega | ((repeat' (first | refine And.intro ?_ ?_ | exact True.intro | assumption | omega)); done) | (simp only [and_true, true_and, or_true, true_or]; first | done | omega))
     | (refine kD ?_; first | exact dm_none))
    show [] = _ ∧ 8 = _
    rw [hf]; exact ⟨rfl, rfl⟩
instance c_exec_Steps {lA : Option Addr} {lc ln : Nat} {l : List StG} {skA : Option Addr} {skc skn : Nat} {sk : List BsG} {ht : Int} {dg : List UInt8} {w0 : World} {X : Nat → Prop} {L : List Assn} [hK : KR w0 X L] [hl : Rw w0 X L (.slice lA ln lc) RSt l] [q_l : StR w0 X L l] [hsk : Rw w0 X L (.slice skA skn skc) RBs sk] [q_sk : BsR w0 X L sk] [hdg : LenIs dg 32] : Ctr Tryd.prog 14 [.slice lA ln lc, .slice skA skn skc, Ag [.one (.int .u32 ht), .blk 32 (RB.all dg)]] w0 X L (StN l ∧ (0 ≤ ht ∧ ht ≤ 4294967295) ∧ sk.length ≤ 1000000 ∧ ∀ b ∈ sk, b.2.length ≤ 140737488351232) (fun o0 : Ow BsG => .tuple #[.slice o0.s.A o0.gs.length o0.s.c, .int .i64 ((stepsX (l.map stK) (sk.map bsK) ht dg).2)]) (fun o0 : Ow BsG => rw_ 22 RBs o0.s o0.gs.length o0.gs :: lot (o0.gs.map bsRow) :: L) (fun o0 : Ow BsG => (True) ∧ (o0.gs.map bsK = (stepsX (l.map stK) (sk.map bsK) ht dg).1 ∧ o0.gs.length = ((stepsX (l.map stK) (sk.map bsK) ht dg).1).length)) :=
  ctr' (M' := (fun o0 : Ow BsG => [rw_ 22 RBs o0.s o0.gs.length o0.gs, lot (o0.gs.map bsRow)])) (by kernel_rfl) (fun hp w hw => by have el := hl.len hw; subst el; have esk := hsk.len hw; subst esk; exact exec_Steps _ _ _ _ _ _ _ _ w (hK.get w hw) (hl.get w hw) (q_l.get w hw) (hsk.get w hw) (q_sk.get w hw) hp) (by rintro hp ⟨o0, e1⟩ ⟨q0, rfl⟩ ok; exact ⟨o0, rfl, rfl, ⟨trivial, ⟨q0, by simpa using congrArg List.length q0⟩⟩⟩)
end Go.Proofs.YtkjpemkankefnaaDoor

/-!
  The machine and the document: plain laws. No program in sight.
-/
namespace Go.Proofs.YtkjpemkankefnaaDoor
open Go.RowKit

section
variable {ht : Int} {dg : List UInt8}
theorem stepsG_app : ∀ {a b : List Stp} {m : MM}, stepsG ht dg (a ++ b) m = stepsG ht dg b (stepsG ht dg a m)
  | [], _, _ => rfl
  | x :: a, b, m => by
    by_cases h : m.e = 0
    · rw [List.cons_append, stepsG_c h, stepsG_c h]; exact stepsG_app
    · rw [List.cons_append, stepsG_e h, stepsG_e h, stepsG_e h]
@[reducible] def opsS (l : List Stp) : List Int := l.map (·.1)
@[reducible] def bs2 (q : List PtG) : List Bool := q.map (·.2)
theorem brB_no {op : Int} (h : branchB op = false) : op ≠ 2 ∧ op ≠ 3 ∧ op ≠ 4 := by
  have := of_decide_eq_false h; omega
theorem brB_yes {op : Int} (h : branchB op = true) : op = 2 ∨ op = 3 ∨ op = 4 := of_decide_eq_true h
theorem oneM_no {m : MM} {x : Stp} (h : branchB x.1 = false) : (oneM m x ht dg).ps = m.ps := by
  unfold oneM; rw [if_neg (by rw [h]; decide)]
  split
  · rfl
  · exact stepM_ps
theorem oneM_yes {m : MM} {x : Stp} (h : branchB x.1 = true) : oneM m x ht dg = branchM m x.1 := by unfold oneM; rw [if_pos h]
theorem oneM_nb {m : MM} {x : Stp} (h : branchB x.1 = false) : oneM m x ht dg = if overB m = true then m else stepM m x.1 x.2 ht dg := by unfold oneM; rw [if_neg (by rw [h]; decide)]
theorem br2 {m : MM} : bs2 (branchM m 2).ps = false :: bs2 m.ps := by
  unfold branchM; rw [if_pos rfl]; split <;> rfl
/-- what is open is what scanning says -/
theorem track : ∀ {l : List Stp} {m : MM}, (stepsG ht dg l m).e = 0 → scan (opsS l) (bs2 m.ps) = some (bs2 (stepsG ht dg l m).ps)
  | [], m, h => rfl
  | x :: l, m, h => by
    by_cases h0 : m.e = 0
    · rw [stepsG_c h0] at h ⊢
      have ih := track h
      have no8 : ∀ {st : List (List UInt8)} {ps : List PtG}, oneM m x ht dg ≠ ⟨st, ps, 8⟩ := fun e => by
        rw [e, stepsG_e (show ¬ (8 : Int) = 0 by decide)] at h; cases h
      show scan (x.1 :: opsS l) _ = _
      by_cases hb : branchB x.1 = true
      · rw [oneM_yes hb] at ih no8 ⊢
        rcases brB_yes hb with h2 | h2 | h2
        · rw [h2] at ih ⊢; rw [sc_if rfl, ← br2]; exact ih
        · rw [h2] at ih no8 ⊢
          unfold branchM at ih no8 ⊢
          rw [if_neg (by decide), if_pos rfl] at ih no8 ⊢
          cases hp : m.ps with
          | nil => rw [hp] at no8; exact absurd rfl no8
          | cons y r =>
            rw [hp] at ih no8
            simp only at ih no8 ⊢
            by_cases hy : y.2 = true
            · rw [if_pos hy] at no8; exact absurd rfl no8
            · rw [if_neg hy] at ih ⊢
              have e : bs2 (y :: r) = false :: bs2 r := by simp [bs2, hy]
              rw [e, sc_e1 rfl]; exact ih
        · rw [h2] at ih no8 ⊢
          unfold branchM at ih no8 ⊢
          rw [if_neg (by decide), if_neg (by decide), if_pos rfl] at ih no8 ⊢
          cases hp : m.ps with
          | nil => rw [hp] at no8; exact absurd rfl no8
          | cons y r =>
            rw [hp] at ih
            simp only at ih ⊢
            rw [show bs2 (y :: r) = y.2 :: bs2 r from rfl, sc_n1 rfl]; exact ih
      · have hb' : branchB x.1 = false := by cases h1 : branchB x.1 <;> simp_all
        have hn := brB_no hb'
        rw [sc_o hn.1 hn.2.1 hn.2.2, ← oneM_no (ht := ht) (dg := dg) hb']; exact ih
    · rw [stepsG_e h0] at h; exact absurd h h0
/-! other parts below -/
@[reducible] def wp (m : MM) (p : List PtG) : MM := ⟨m.st, p, m.e⟩
theorem popM_wp {m : MM} {p : List PtG} {n : Int} : popM (wp m p) n = wp (popM m n) p := by unfold popM; split <;> rfl
theorem popL_wp {m : MM} {p : List PtG} {n : Int} : popL (wp m p) n = popL m n := rfl
theorem failM_wp {m : MM} {p : List PtG} {b : Bool} : failM (wp m p) b = wp (failM m b) p := by unfold failM; split <;> rfl
theorem numM_wp {m : MM} {p : List PtG} {b : List UInt8} : numM (wp m p) b = wp (numM m b) p := by unfold numM; split <;> rfl
theorem pushM_wp {p : List PtG} : ∀ {l : List (List UInt8)} {m : MM}, pushM (wp m p) l = wp (pushM m l) p
  | [], m => rfl
  | b :: l, m => by
    unfold pushM
    split
    · exact pushM_wp (m := ⟨pushC m.st b, m.ps, m.e⟩)
    · rfl
theorem hashM_wp {m : MM} {p : List PtG} {op : Int} : hashM (wp m p) op ht dg = wp (hashM m op ht dg) p := by
  unfold hashM
  simp only [popL_wp, popM_wp, pushM_wp, numM_wp, failM_wp]
  repeat' split
  all_goals rfl
theorem stepM_wp {m : MM} {p : List PtG} {op : Int} {u : List UInt8} : stepM (wp m p) op u ht dg = wp (stepM m op u ht dg) p := by
  unfold stepM
  simp only [popL_wp, popM_wp, pushM_wp, numM_wp, failM_wp, hashM_wp]
  repeat' split
  all_goals rfl
/-- both fail, or both stand alike, but for what is below -/
def Fr (base : List PtG) (m m' : MM) : Prop := (m.e ≠ 0 ∧ m'.e ≠ 0) ∨ (m.e = 0 ∧ m' = wp m (m.ps ++ base))
theorem over_app {m : MM} {base : List PtG} (hb : overB ⟨[], base, 0⟩ = false) : overB (wp m (m.ps ++ base)) = overB m := by
  unfold overB at *
  cases h : m.ps with
  | nil => simpa using hb
  | cons x r => rfl
theorem frame {base : List PtG} (hb : overB ⟨[], base, 0⟩ = false) : ∀ {l : List Stp} {m m' : MM} {o : List Bool}, Fr base m m' → scan (opsS l) (bs2 m.ps) = some o → Fr base (stepsG ht dg l m) (stepsG ht dg l m')
  | [], m, m', o, h, _ => h
  | x :: l, m, m', o, h, hs => by
    rcases h with ⟨h1, h2⟩ | ⟨h1, h2⟩
    · rw [stepsG_e h1, stepsG_e h2]; exact .inl ⟨h1, h2⟩
    · have h1' : m'.e = 0 := by rw [h2]; exact h1
      rw [stepsG_c h1, stepsG_c h1']
      have key : ∀ q, Fr base (oneM m x ht dg) (oneM m' x ht dg) → bs2 (oneM m x ht dg).ps = q → scan (opsS l) q = some o → Fr base (stepsG ht dg l (oneM m x ht dg)) (stepsG ht dg l (oneM m' x ht dg)) := fun q a b c => frame hb a (by rw [b]; exact c)
      have hs' : scan (x.1 :: opsS l) (bs2 m.ps) = some o := hs
      by_cases hbr : branchB x.1 = true
      · rw [oneM_yes hbr, oneM_yes hbr] at *
        have ho := over_app (m := m) hb
        rcases brB_yes hbr with e | e | e
        · rw [e] at key hs' ⊢
          rw [sc_if rfl] at hs'
          refine key _ ?_ br2 hs'
          rw [h2]
          unfold branchM
          rw [if_pos rfl, if_pos rfl, ho]
          split
          · exact .inr ⟨h1, rfl⟩
          · simp only [popM_wp, popL_wp]
            by_cases h8 : (popM m 1).e = 0
            · exact .inr ⟨h8, rfl⟩
            · exact .inl ⟨h8, h8⟩
        · rw [e] at key hs' ⊢
          cases hp : m.ps with
          | nil => rw [hp, show bs2 [] = [] from rfl, sc_e0 rfl] at hs'; cases hs'
          | cons y r =>
            have e1 : branchM m 3 = if y.2 = true then ⟨m.st, y :: r, 8⟩ else ⟨m.st, (if y.1 = 2 then 2 else 1 - y.1, true) :: r, m.e⟩ := by
              unfold branchM; rw [if_neg (by decide), if_pos rfl, hp]
            have e2 : branchM m' 3 = if y.2 = true then ⟨m.st, y :: (r ++ base), 8⟩ else ⟨m.st, (if y.1 = 2 then 2 else 1 - y.1, true) :: (r ++ base), m.e⟩ := by
              rw [h2, hp]; unfold branchM; rw [if_neg (by decide), if_pos rfl]; rfl
            rw [hp] at hs'
            by_cases hy : y.2 = true
            · rw [show bs2 (y :: r) = true :: bs2 r by simp [bs2, hy], sc_e2 rfl] at hs'; cases hs'
            · rw [show bs2 (y :: r) = false :: bs2 r by simp [bs2, hy], sc_e1 rfl] at hs'
              rw [if_neg hy] at e1 e2
              refine key _ ?_ (by rw [e1]; rfl) hs'
              rw [e1, e2]; exact .inr ⟨h1, rfl⟩
        · rw [e] at key hs' ⊢
          cases hp : m.ps with
          | nil => rw [hp, show bs2 [] = [] from rfl, sc_n0 rfl] at hs'; cases hs'
          | cons y r =>
            have e1 : branchM m 4 = ⟨m.st, r, m.e⟩ := by unfold branchM; rw [if_neg (by decide), if_neg (by decide), if_pos rfl, hp]
            have e2 : branchM m' 4 = ⟨m.st, r ++ base, m.e⟩ := by rw [h2, hp]; unfold branchM; rw [if_neg (by decide), if_neg (by decide), if_pos rfl]; rfl
            rw [hp, show bs2 (y :: r) = y.2 :: bs2 r from rfl, sc_n1 rfl] at hs'
            refine key _ ?_ (by rw [e1]) hs'
            rw [e1, e2]; exact .inr ⟨h1, rfl⟩
      · have hb' : branchB x.1 = false := by cases h3 : branchB x.1 <;> simp_all
        have hn := brB_no hb'
        rw [sc_o hn.1 hn.2.1 hn.2.2] at hs'
        refine key _ ?_ (by rw [oneM_no hb']) hs'
        have ho := over_app (m := m) hb
        rw [h2, oneM_nb (m := m) hb', oneM_nb (m := wp m (m.ps ++ base)) hb', ho]
        by_cases hov : overB m = true
        · rw [if_pos hov, if_pos hov]
          exact .inr ⟨h1, rfl⟩
        · rw [if_neg hov, if_neg hov, stepM_wp (m := m) (p := m.ps ++ base)]
          by_cases h8 : (stepM m x.1 x.2 ht dg).e = 0
          · exact .inr ⟨h8, by rw [stepM_ps]⟩
          · exact .inl ⟨h8, h8⟩
/-- what is passed over does nothing -/
theorem pass {base : List PtG} (hb : overB ⟨[], base, 0⟩ = true) {st : List (List UInt8)} : ∀ {l : List Stp} {o o' : List Bool}, scan (opsS l) o = some o' → stepsG ht dg l ⟨st, o.map (fun b => ((2 : Int), b)) ++ base, 0⟩ = ⟨st, o'.map (fun b => ((2 : Int), b)) ++ base, 0⟩
  | [], o, o', h => by cases Option.some.inj h; rfl
  | x :: l, o, o', h => by
    have ov : ∀ o : List Bool, overB ⟨st, o.map (fun b => ((2 : Int), b)) ++ base, 0⟩ = true := fun o => by
      cases o with
      | nil => exact hb
      | cons y r => simp [overB]
    have hs' : scan (x.1 :: opsS l) o = some o' := h
    rw [stepsG_c rfl]
    by_cases hbr : branchB x.1 = true
    · rw [oneM_yes hbr]
      rcases brB_yes hbr with e | e | e
      · rw [e] at hs' ⊢
        rw [sc_if rfl] at hs'
        rw [← pass hb hs']
        congr 1
        unfold branchM; rw [if_pos rfl, if_pos (ov o)]; rfl
      · rw [e] at hs' ⊢
        cases o with
        | nil => rw [sc_e0 rfl] at hs'; cases hs'
        | cons y r =>
          cases y with
          | true => rw [sc_e2 rfl] at hs'; cases hs'
          | false =>
            rw [sc_e1 rfl] at hs'
            rw [← pass hb hs']
            congr 1
      · rw [e] at hs' ⊢
        cases o with
        | nil => rw [sc_n0 rfl] at hs'; cases hs'
        | cons y r =>
          rw [sc_n1 rfl] at hs'
          rw [← pass hb hs']
          congr 1
    · have hb' : branchB x.1 = false := by cases h3 : branchB x.1 <;> simp_all
      have hn := brB_no hb'
      rw [sc_o hn.1 hn.2.1 hn.2.2] at hs'
      rw [← pass hb hs']
      congr 1
      unfold oneM
      rw [if_neg (by rw [hb']; decide), if_pos (ov o)]
/-! a step that is none of a part's -/
theorem pushM_e : ∀ {l : List (List UInt8)} {m : MM}, m.e ≠ 0 → (pushM m l).e ≠ 0
  | [], m, h => h
  | b :: l, m, h => by
    unfold pushM
    split
    · exact pushM_e h
    · exact show (8 : Int) ≠ 0 by decide
theorem failM_e {m : MM} {b : Bool} (h : m.e ≠ 0) : (failM m b).e ≠ 0 := by
  unfold failM; split
  · exact h
  · exact show (8 : Int) ≠ 0 by decide
theorem numM_e {m : MM} {b : List UInt8} (h : m.e ≠ 0) : (numM m b).e ≠ 0 := by
  unfold numM; split
  · exact h
  · exact show (8 : Int) ≠ 0 by decide
/-- what is made of a result -/
def Is (r : List (List UInt8) × Bool) (m : MM) : Prop := (r.2 = true ∧ m = ⟨r.1, [], 0⟩) ∨ (r.2 = false ∧ m.e ≠ 0)
theorem push_is : ∀ {l st : List (List UInt8)}, Is (pushX st l) (pushM ⟨st, [], 0⟩ l)
  | [], st => .inl ⟨rfl, rfl⟩
  | b :: l, st => by
    by_cases h : pushE st b = 0
    · rw [pushX_ok h, pushM, if_pos h]; exact push_is
    · rw [pushX_no h, pushM, if_neg h]; exact .inr ⟨rfl, show (8 : Int) ≠ 0 by decide⟩
theorem no_is {st : List (List UInt8)} {m : MM} (h : m.e ≠ 0) : Is (st, false) m := .inr ⟨rfl, h⟩
theorem popE_0 {st : List (List UInt8)} : popE st 0 = 0 := by unfold popE; rw [if_neg (by decide), if_neg (by omega)]
theorem popC_0 {st : List (List UInt8)} : popC st 0 = st := by unfold popC; rw [if_neg (by omega)]; simp
theorem popM_no {st : List (List UInt8)} {n : Int} (h : ¬ popE st n = 0) : (popM ⟨st, [], 0⟩ n).e ≠ 0 := by unfold popM; rw [if_neg h]; exact show (8 : Int) ≠ 0 by decide
theorem popM_yes {st : List (List UInt8)} {n : Int} (h : popE st n = 0) : popM ⟨st, [], 0⟩ n = ⟨popC st n, [], 0⟩ := by unfold popM; rw [if_pos h]
theorem popL_yes {st : List (List UInt8)} {n : Int} (h : popE st n = 0) : popL ⟨st, [], 0⟩ n = popX st n := by unfold popL; rw [if_pos h]
theorem one_is {op : Int} {u : List UInt8} {st : List (List UInt8)} (ho : op = 1 ∨ 5 ≤ op ∧ op ≤ 20) : Is (oneX op u st ht dg) (stepM ⟨st, [], 0⟩ op u ht dg) := by
  have cs : op = 1 ∨ op = 5 ∨ op = 6 ∨ op = 7 ∨ op = 8 ∨ op = 9 ∨ op = 10 ∨ op = 11 ∨ op = 12 ∨ op = 17 ∨ op = 18 ∨ op = 19 ∨ op = 20 ∨ (13 ≤ op ∧ op ≤ 16) := by omega
  unfold oneX
  by_cases h0 : popE st (popsN op) = 0
  · rw [if_neg (by simpa using h0)]
    have hM := popM_yes h0
    have hL := popL_yes h0
    rcases cs with e | e | e | e | e | e | e | e | e | e | e | e | e | e
    · subst e
      have h := push_is (l := [u]) (st := popC st 0)
      show Is (pushX (popC st 0) [u]) (pushM ⟨st, [], 0⟩ [u])
      rw [popC_0] at h ⊢; exact h
    · subst e
      have hM' : popM ⟨st, [], 0⟩ 1 = ⟨popC st 1, [], 0⟩ := hM
      have hL' : popL ⟨st, [], 0⟩ 1 = popX st 1 := hL
      show Is (popC st 1, trueB ((popX st 1).getD 0 [])) (failM (popM ⟨st, [], 0⟩ 1) (trueB ((popL ⟨st, [], 0⟩ 1).getD 0 [])))
      rw [hM', hL']
      cases h : trueB ((popX st 1).getD 0 []) with
      | true => exact .inl ⟨rfl, rfl⟩
      | false => exact .inr ⟨rfl, show (8 : Int) ≠ 0 by decide⟩
    · subst e
      exact .inr ⟨rfl, show (8 : Int) ≠ 0 by decide⟩
    · subst e
      have hM' : popM ⟨st, [], 0⟩ 1 = ⟨popC st 1, [], 0⟩ := hM
      have hL' : popL ⟨st, [], 0⟩ 1 = popX st 1 := hL
      show Is (pushX (popC st 1) [((popX st 1).getD 0 []), ((popX st 1).getD 0 [])]) (pushM (popM ⟨st, [], 0⟩ 1) [((popL ⟨st, [], 0⟩ 1).getD 0 []), ((popL ⟨st, [], 0⟩ 1).getD 0 [])])
      rw [hM', hL']; exact push_is
    · subst e
      have hM' : popM ⟨st, [], 0⟩ 1 = ⟨popC st 1, [], 0⟩ := hM
      show Is (popC st 1, true) (popM ⟨st, [], 0⟩ 1)
      rw [hM']; exact .inl ⟨rfl, rfl⟩
    · subst e
      have hM' : popM ⟨st, [], 0⟩ 2 = ⟨popC st 2, [], 0⟩ := hM
      have hL' : popL ⟨st, [], 0⟩ 2 = popX st 2 := hL
      show Is (pushX (popC st 2) [((popX st 2).getD 1 []), ((popX st 2).getD 0 [])]) (pushM (popM ⟨st, [], 0⟩ 2) [((popL ⟨st, [], 0⟩ 2).getD 1 []), ((popL ⟨st, [], 0⟩ 2).getD 0 [])])
      rw [hM', hL']; exact push_is
    · subst e
      have hM' : popM ⟨st, [], 0⟩ 1 = ⟨popC st 1, [], 0⟩ := hM
      have hL' : popL ⟨st, [], 0⟩ 1 = popX st 1 := hL
      show Is (pushX (popC st 1) [((popX st 1).getD 0 []), cellB (((popX st 1).getD 0 [])).length]) (pushM (popM ⟨st, [], 0⟩ 1) [((popL ⟨st, [], 0⟩ 1).getD 0 []), cellB (((popL ⟨st, [], 0⟩ 1).getD 0 [])).length])
      rw [hM', hL']; exact push_is
    · subst e
      have hM' : popM ⟨st, [], 0⟩ 2 = ⟨popC st 2, [], 0⟩ := hM
      have hL' : popL ⟨st, [], 0⟩ 2 = popX st 2 := hL
      show Is (pushX (popC st 2) [boolC (decide (((popX st 2).getD 0 []) = ((popX st 2).getD 1 [])))]) (pushM (popM ⟨st, [], 0⟩ 2) [boolC (decide (((popL ⟨st, [], 0⟩ 2).getD 0 []) = ((popL ⟨st, [], 0⟩ 2).getD 1 [])))])
      rw [hM', hL']; exact push_is
    · subst e
      have hM' : popM ⟨st, [], 0⟩ 1 = ⟨popC st 1, [], 0⟩ := hM
      have hL' : popL ⟨st, [], 0⟩ 1 = popX st 1 := hL
      show Is (pushX (popC st 1) [boolC (!trueB (((popX st 1).getD 0 [])))]) (pushM (popM ⟨st, [], 0⟩ 1) [boolC (!trueB (((popL ⟨st, [], 0⟩ 1).getD 0 [])))])
      rw [hM', hL']; exact push_is
    · subst e
      have hM' : popM ⟨st, [], 0⟩ 1 = ⟨popC st 1, [], 0⟩ := hM
      have hL' : popL ⟨st, [], 0⟩ 1 = popX st 1 := hL
      show Is (pushX (popC st 1) [(shaH (((popX st 1).getD 0 []))).l]) (pushM (popM ⟨st, [], 0⟩ 1) [(shaH (((popL ⟨st, [], 0⟩ 1).getD 0 []))).l])
      rw [hM', hL']; exact push_is
    · subst e
      have hM' : popM ⟨st, [], 0⟩ 1 = ⟨popC st 1, [], 0⟩ := hM
      have hL' : popL ⟨st, [], 0⟩ 1 = popX st 1 := hL
      show Is (pushX (popC st 1) [(sha2 (((popX st 1).getD 0 []))).l]) (pushM (popM ⟨st, [], 0⟩ 1) [(sha2 (((popL ⟨st, [], 0⟩ 1).getD 0 []))).l])
      rw [hM', hL']; exact push_is
    · subst e
      have hM' : popM ⟨st, [], 0⟩ 2 = ⟨popC st 2, [], 0⟩ := hM
      have hL' : popL ⟨st, [], 0⟩ 2 = popX st 2 := hL
      show Is (pushX (popC st 2) [boolC (decide ((((popX st 2).getD 1 [])).length = 32 ∧ lampE (((popX st 2).getD 1 [])) dg (((popX st 2).getD 0 [])) = 0))]) (pushM (popM ⟨st, [], 0⟩ 2) [boolC (decide ((((popL ⟨st, [], 0⟩ 2).getD 1 [])).length = 32 ∧ lampE (((popL ⟨st, [], 0⟩ 2).getD 1 [])) dg (((popL ⟨st, [], 0⟩ 2).getD 0 [])) = 0))])
      rw [hM', hL']; exact push_is
    · subst e
      have hM' : popM ⟨st, [], 0⟩ 1 = ⟨popC st 1, [], 0⟩ := hM
      have hL' : popL ⟨st, [], 0⟩ 1 = popX st 1 := hL
      show Is (popC st 1, decide (numE ((popX st 1).getD 0 []) = 0 ∧ numN ((popX st 1).getD 0 []) ≤ ht)) (failM (numM (popM ⟨st, [], 0⟩ 1) ((popL ⟨st, [], 0⟩ 1).getD 0 [])) (decide (numN ((popL ⟨st, [], 0⟩ 1).getD 0 []) ≤ ht)))
      rw [hM', hL']
      generalize (popX st 1).getD 0 [] = c
      by_cases h1 : numE c = 0
      · have e1 : numM ⟨popC st 1, [], 0⟩ c = ⟨popC st 1, [], 0⟩ := by unfold numM; rw [if_pos h1]
        rw [e1]
        by_cases h2 : numN c ≤ ht
        · left; simp [h1, h2, failM]
        · right; simp [h1, h2, failM]
      · right
        refine ⟨by simp [h1], failM_e ?_⟩
        unfold numM; rw [if_neg h1]; exact show (8 : Int) ≠ 0 by decide
    · have hn : popsN op = 2 := by unfold popsN; rw [if_neg (by omega), if_pos (by omega)]
      rw [hn] at hM hL ⊢
      have e1 : stepM ⟨st, [], 0⟩ op u ht dg = pushM (failM (numM (numM (popM ⟨st, [], 0⟩ 2) ((popL ⟨st, [], 0⟩ 2).getD 0 [])) ((popL ⟨st, [], 0⟩ 2).getD 1 [])) (decide (twoE op (numN ((popL ⟨st, [], 0⟩ 2).getD 0 [])) (numN ((popL ⟨st, [], 0⟩ 2).getD 1 [])) = 0))) [cellB (twoN op (numN ((popL ⟨st, [], 0⟩ 2).getD 0 [])) (numN ((popL ⟨st, [], 0⟩ 2).getD 1 [])))] := by
        unfold stepM
        rw [if_neg (by omega), if_neg (by omega), if_neg (by omega), if_neg (by omega), if_neg (by omega), if_neg (by omega), if_neg (by omega), if_neg (by omega), if_pos e]
      rw [e1, hM, hL]
      generalize (popX st 2).getD 0 [] = a
      generalize (popX st 2).getD 1 [] = b
      unfold oneY
      rw [if_neg (by omega), if_neg (by omega), if_neg (by omega)]
      by_cases h2 : twoO op a b = false
      · rw [if_pos ⟨e, h2⟩]
        refine no_is (pushM_e ?_)
        have h3 := of_decide_eq_false h2
        by_cases ha : numE a = 0
        · by_cases hb : numE b = 0
          · have hx : ¬ twoE op (numN a) (numN b) = 0 := fun h => h3 ⟨ha, hb, h⟩
            unfold failM; rw [if_neg (by simp [hx])]; exact show (8 : Int) ≠ 0 by decide
          · refine failM_e ?_
            unfold numM; rw [if_neg hb]; exact show (8 : Int) ≠ 0 by decide
        · refine failM_e (numM_e ?_)
          unfold numM; rw [if_neg ha]; exact show (8 : Int) ≠ 0 by decide
      · rw [if_neg (fun h => h2 h.2)]
        have h3 : twoO op a b = true := by cases h4 : twoO op a b <;> simp_all
        have h5 := of_decide_eq_true h3
        have e2 : outL op u a b dg = [cellB (twoN op (numN a) (numN b))] := by
          unfold outL
          rw [if_neg (by omega), if_neg (by omega), if_neg (by omega), if_neg (by omega), if_neg (by omega), if_neg (by omega), if_neg (by omega), if_neg (by omega), if_neg (by omega), if_neg (by omega)]
        rw [e2]
        have e3 : failM (numM (numM ⟨popC st 2, [], 0⟩ a) b) (decide (twoE op (numN a) (numN b) = 0)) = ⟨popC st 2, [], 0⟩ := by
          unfold failM numM; rw [if_pos h5.2.1, if_pos h5.1, if_pos (by simp [h5.2.2])]
        rw [e3]; exact push_is
  · rw [if_pos (by simpa using h0)]
    have hM := popM_no h0
    refine no_is ?_
    rcases cs with e | e | e | e | e | e | e | e | e | e | e | e | e | e
    · subst e; exact absurd popE_0 h0
    · subst e; exact failM_e (m := popM ⟨st, [], 0⟩ 1) hM
    · subst e; exact absurd popE_0 h0
    · subst e; exact pushM_e (m := popM ⟨st, [], 0⟩ 1) hM
    · subst e; exact hM
    · subst e; exact pushM_e (m := popM ⟨st, [], 0⟩ 2) hM
    · subst e; exact pushM_e (m := popM ⟨st, [], 0⟩ 1) hM
    · subst e; exact pushM_e (m := popM ⟨st, [], 0⟩ 2) hM
    · subst e; exact pushM_e (m := popM ⟨st, [], 0⟩ 1) hM
    · subst e; exact pushM_e (m := popM ⟨st, [], 0⟩ 1) hM
    · subst e; exact pushM_e (m := popM ⟨st, [], 0⟩ 1) hM
    · subst e; exact pushM_e (m := popM ⟨st, [], 0⟩ 2) hM
    · subst e; exact failM_e (m := numM (popM ⟨st, [], 0⟩ 1) _) (numM_e hM)
    · have hn : popsN op = 2 := by unfold popsN; rw [if_neg (by omega), if_pos (by omega)]
      rw [hn] at hM
      unfold stepM
      rw [if_neg (by omega), if_neg (by omega), if_neg (by omega), if_neg (by omega), if_neg (by omega), if_neg (by omega), if_neg (by omega), if_neg (by omega), if_pos e]
      exact pushM_e (failM_e (numM_e (numM_e hM)))
/-! parts -/
def rsM (m : MM) : List (List UInt8) × Bool := if m.e = 0 then (m.st, true) else ([], false)
theorem rsM_e {m : MM} (h : m.e ≠ 0) : rsM m = ([], false) := by unfold rsM; rw [if_neg h]
theorem rsM_0 {st : List (List UInt8)} {p : List PtG} : rsM ⟨st, p, 0⟩ = (st, true) := by unfold rsM; rw [if_pos rfl]
theorem bal_run {base : List PtG} (hb : overB ⟨[], base, 0⟩ = false) {p : List Stp} (hs : scan (opsS p) [] = some []) {st : List (List UInt8)} :
    ((rsM (stepsG ht dg p ⟨st, [], 0⟩)).2 = true ∧ stepsG ht dg p ⟨st, base, 0⟩ = ⟨(rsM (stepsG ht dg p ⟨st, [], 0⟩)).1, base, 0⟩) ∨ ((rsM (stepsG ht dg p ⟨st, [], 0⟩)).2 = false ∧ (stepsG ht dg p ⟨st, base, 0⟩).e ≠ 0) := by
  have h := frame (ht := ht) (dg := dg) hb (l := p) (m := ⟨st, [], 0⟩) (m' := ⟨st, base, 0⟩) (o := []) (.inr ⟨rfl, rfl⟩) hs
  rcases h with ⟨h1, h2⟩ | ⟨h1, h2⟩
  · right; rw [rsM_e h1]; exact ⟨rfl, h2⟩
  · left
    have ht' := track h1
    rw [show bs2 ([] : List PtG) = [] from rfl, hs] at ht'
    have e0 : (stepsG ht dg p ⟨st, [], 0⟩).ps = [] := by
      have := Option.some.inj ht'
      exact List.map_eq_nil_iff.1 this.symm
    rw [h2]
    unfold rsM
    rw [if_pos h1]
    refine ⟨rfl, ?_⟩
    unfold wp; rw [e0, h1]; rfl
theorem pass0 {base : List PtG} (hb : overB ⟨[], base, 0⟩ = true) {p : List Stp} (hs : scan (opsS p) [] = some []) {st : List (List UInt8)} : stepsG ht dg p ⟨st, base, 0⟩ = ⟨st, base, 0⟩ := pass hb (o := []) (o' := []) hs
section
variable {x y z : Stp} {p q r : List Stp} {st : List (List UInt8)}
theorem ov0 {st : List (List UInt8)} : ¬ overB ⟨st, [], 0⟩ = true := Bool.false_ne_true
theorem if_no (hx : x.1 = 2) (h : ¬ popE st 1 = 0) : rsM (stepsG ht dg (x :: r) ⟨st, [], 0⟩) = ([], false) := by
  rw [stepsG_c rfl]
  have e : (oneM ⟨st, [], 0⟩ x ht dg).e ≠ 0 := by
    rw [oneM_yes (by rw [hx]; rfl), hx]
    unfold branchM
    rw [if_pos rfl, if_neg ov0]
    exact popM_no h
  rw [stepsG_e e]; exact rsM_e e
theorem if_push (hx : x.1 = 2) (h : popE st 1 = 0) : oneM ⟨st, [], 0⟩ x ht dg = ⟨popC st 1, [(if trueB ((popX st 1).getD 0 []) then 0 else 1, false)], 0⟩ := by
  rw [oneM_yes (by rw [hx]; rfl), hx]
  unfold branchM
  rw [if_pos rfl, if_neg ov0, popM_yes h, popL_yes h]
theorem end_ (hy : y.1 = 4) {b : PtG} : oneM ⟨st, [b], 0⟩ y ht dg = ⟨st, [], 0⟩ := by
  rw [oneM_yes (by rw [hy]; rfl), hy]; rfl
theorem else_ (hy : y.1 = 3) {h : Int} (h2 : h ≠ 2) : oneM ⟨st, [(h, false)], 0⟩ y ht dg = ⟨st, [(1 - h, true)], 0⟩ := by
  rw [oneM_yes (by rw [hy]; rfl), hy]
  unfold branchM
  rw [if_neg (by decide), if_pos rfl]
  simp [h2]
theorem if1_t (hx : x.1 = 2) (hy : y.1 = 4) (hp : scan (opsS p) [] = some []) (h : popE st 1 = 0) (hc : trueB ((popX st 1).getD 0 []) = true) :
    rsM (stepsG ht dg (x :: (p ++ y :: r)) ⟨st, [], 0⟩) = if (rsM (stepsG ht dg p ⟨popC st 1, [], 0⟩)).2 = true then rsM (stepsG ht dg r ⟨(rsM (stepsG ht dg p ⟨popC st 1, [], 0⟩)).1, [], 0⟩) else ([], false) := by
  rw [stepsG_c rfl, if_push hx h, if_pos hc, stepsG_app]
  rcases bal_run (ht := ht) (dg := dg) (base := [(0, false)]) rfl hp (st := popC st 1) with ⟨h1, h2⟩ | ⟨h1, h2⟩
  · rw [h2, stepsG_c rfl, end_ hy, if_pos h1]
  · rw [stepsG_e h2, rsM_e h2, if_neg (by rw [h1]; decide)]
theorem if1_f (hx : x.1 = 2) (hy : y.1 = 4) (hp : scan (opsS p) [] = some []) (h : popE st 1 = 0) (hc : trueB ((popX st 1).getD 0 []) = false) :
    rsM (stepsG ht dg (x :: (p ++ y :: r)) ⟨st, [], 0⟩) = rsM (stepsG ht dg r ⟨popC st 1, [], 0⟩) := by
  rw [stepsG_c rfl, if_push hx h, if_neg (by rw [hc]; decide), stepsG_app, pass0 rfl hp, stepsG_c rfl, end_ hy]
theorem if2_t (hx : x.1 = 2) (hy : y.1 = 3) (hz : z.1 = 4) (hp : scan (opsS p) [] = some []) (hq : scan (opsS q) [] = some []) (h : popE st 1 = 0) (hc : trueB ((popX st 1).getD 0 []) = true) :
    rsM (stepsG ht dg (x :: (p ++ y :: (q ++ z :: r))) ⟨st, [], 0⟩) = if (rsM (stepsG ht dg p ⟨popC st 1, [], 0⟩)).2 = true then rsM (stepsG ht dg r ⟨(rsM (stepsG ht dg p ⟨popC st 1, [], 0⟩)).1, [], 0⟩) else ([], false) := by
  rw [stepsG_c rfl, if_push hx h, if_pos hc, stepsG_app]
  rcases bal_run (ht := ht) (dg := dg) (base := [(0, false)]) rfl hp (st := popC st 1) with ⟨h1, h2⟩ | ⟨h1, h2⟩
  · rw [h2, stepsG_c rfl, else_ hy (by decide), stepsG_app, pass0 rfl hq, stepsG_c rfl, end_ hz, if_pos h1]
  · rw [stepsG_e h2, rsM_e h2, if_neg (by rw [h1]; decide)]
theorem if2_f (hx : x.1 = 2) (hy : y.1 = 3) (hz : z.1 = 4) (hp : scan (opsS p) [] = some []) (hq : scan (opsS q) [] = some []) (h : popE st 1 = 0) (hc : trueB ((popX st 1).getD 0 []) = false) :
    rsM (stepsG ht dg (x :: (p ++ y :: (q ++ z :: r))) ⟨st, [], 0⟩) = if (rsM (stepsG ht dg q ⟨popC st 1, [], 0⟩)).2 = true then rsM (stepsG ht dg r ⟨(rsM (stepsG ht dg q ⟨popC st 1, [], 0⟩)).1, [], 0⟩) else ([], false) := by
  rw [stepsG_c rfl, if_push hx h, if_neg (by rw [hc]; decide), stepsG_app, pass0 rfl hp, stepsG_c rfl, else_ hy (by decide), stepsG_app]
  rcases bal_run (ht := ht) (dg := dg) (base := [(1 - 1, true)]) rfl hq (st := popC st 1) with ⟨h1, h2⟩ | ⟨h1, h2⟩
  · rw [h2, stepsG_c rfl, end_ hz, if_pos h1]
  · rw [stepsG_e h2, rsM_e h2, if_neg (by rw [h1]; decide)]
end
/-! from a place to another one -/
theorem pS_scan : ∀ {l : List Int} {o : List Bool} {i n : Nat}, pS l o i = some n → scan (l.take (n - i)) o = some []
  | [], o, i, n, h => by
    unfold pS at h; split at h
    · rename_i h0; subst h0; simp [scan]
    · cases h
  | c :: r, o, i, n, h => by
    have up : ∀ {o' : List Bool}, pS r o' (i + 1) = some n → n - i = (n - (i + 1)) + 1 ∧ scan (r.take (n - (i + 1))) o' = some [] := fun {o'} h => by
      have := pS_le h
      exact ⟨by omega, pS_scan h⟩
    by_cases h2 : c = 2
    · rw [pS_if h2] at h
      obtain ⟨e, u⟩ := up h
      rw [e, List.take_succ_cons, sc_if h2]; exact u
    · by_cases h3 : c = 3
      · cases o with
        | nil => rw [pS_e0 h3] at h; cases h; simp [scan]
        | cons y o' =>
          cases y with
          | true => rw [pS_e2 h3] at h; cases h
          | false =>
            rw [pS_e1 h3] at h
            obtain ⟨e, u⟩ := up h
            rw [e, List.take_succ_cons, sc_e1 h3]; exact u
      · by_cases h4 : c = 4
        · cases o with
          | nil => rw [pS_n0 h4] at h; cases h; simp [scan]
          | cons y o' =>
            rw [pS_n1 h4] at h
            obtain ⟨e, u⟩ := up h
            rw [e, List.take_succ_cons, sc_n1 h4]; exact u
        · rw [pS_o h2 h3 h4] at h
          obtain ⟨e, u⟩ := up h
          rw [e, List.take_succ_cons, sc_o h2 h3 h4]; exact u
def seg (l : List Stp) (a b : Nat) : List Stp := (l.drop a).take (b - a)
def Bal (l : List Stp) (a b : Nat) : Prop := pS ((opsS l).drop a) [] a = some b
theorem Bal.le {l : List Stp} {a b : Nat} (h : Bal l a b) : a ≤ b := (pS_le h).1
theorem Bal.scan {l : List Stp} {a b : Nat} (h : Bal l a b) : scan (opsS (seg l a b)) [] = some [] := by
  have := pS_scan h
  unfold seg opsS; rw [List.map_take, List.map_drop]; exact this
theorem seg_cons {l : List Stp} {a b : Nat} (h : a < b) (hl : a < l.length) : seg l a b = l[a] :: seg l (a + 1) b := by
  unfold seg
  rw [List.drop_eq_getElem_cons hl, show b - a = (b - (a + 1)) + 1 by omega, List.take_succ_cons]
theorem seg_app {l : List Stp} {a b c : Nat} (h1 : a ≤ b) (h2 : b ≤ c) (hc : c ≤ l.length) : seg l a c = seg l a b ++ seg l b c := by
  unfold seg
  rw [show c - a = (b - a) + (c - b) by omega, List.take_add, List.drop_drop, show a + (b - a) = b by omega]
theorem seg_nil {l : List Stp} {a b : Nat} (h : b ≤ a) : seg l a b = [] := by
  unfold seg; rw [show b - a = 0 by omega]; rfl
/-- what the document's run makes -/
def runR (ht : Int) (dg : List UInt8) (l : List Stp) (a b : Nat) (st : List (List UInt8)) : List (List UInt8) × Bool := rsM (stepsG ht dg (seg l a b) ⟨st, [], 0⟩)
theorem run_end {l : List Stp} {a b : Nat} {st : List (List UInt8)} (h : b ≤ a) : runR ht dg l a b st = (st, true) := by
  unfold runR; rw [seg_nil h]; rfl
theorem run_one {l : List Stp} {a b : Nat} {st : List (List UInt8)} (hB : Bal l a b) (h : a < b) (hl : a < l.length) (hm : MayL l) (h2 : (l[a]).1 ≠ 2) :
    Bal l (a + 1) b ∧ (l[a].1 = 1 ∨ 5 ≤ l[a].1 ∧ l[a].1 ≤ 20) ∧ runR ht dg l a b st = if (oneX l[a].1 l[a].2 st ht dg).2 = true then runR ht dg l (a + 1) b (oneX l[a].1 l[a].2 st ht dg).1 else ([], false) := by
  have hd : (opsS l).drop a = l[a].1 :: (opsS l).drop (a + 1) := by
    rw [List.drop_eq_getElem_cons (by simpa using hl)]; simp
  have hB' := hB
  unfold Bal at hB
  rw [hd] at hB
  have h3 : l[a].1 ≠ 3 := fun e => by rw [pS_e0 e] at hB; have := Option.some.inj hB; omega
  have h4 : l[a].1 ≠ 4 := fun e => by rw [pS_n0 e] at hB; have := Option.some.inj hB; omega
  rw [pS_o h2 h3 h4] at hB
  have hmy : l[a].1 = 1 ∨ 5 ≤ l[a].1 ∧ l[a].1 ≤ 20 := by
    have := hm l[a] (List.getElem_mem _)
    unfold mayS at this
    split at this <;> omega
  refine ⟨hB, hmy, ?_⟩
  unfold runR
  rw [seg_cons h hl, stepsG_c rfl, oneM_nb (decide_eq_false (by omega)), if_neg ov0]
  rcases one_is (ht := ht) (dg := dg) (op := l[a].1) (u := l[a].2) (st := st) hmy with ⟨e1, e2⟩ | ⟨e1, e2⟩
  · rw [e2, if_pos e1]
  · rw [stepsG_e e2, rsM_e e2, if_neg (by rw [e1]; decide)]
theorem parts_ok {l : List Int} {a : Nat} (h : (partsR l a).ok = true) : ∃ f e : Nat, partsR l a = ⟨f, e, true⟩ ∧ pS (l.drop (a + 1)) [] (a + 1) = some f ∧ f < l.length ∧ ((f = e ∧ l[f]? = some 4) ∨ (f < e ∧ l[f]? = some 3 ∧ pS (l.drop (f + 1)) [] (f + 1) = some e ∧ e < l.length ∧ l[e]? = some 4)) := by
  unfold partsR at h ⊢
  cases hp : pS (l.drop (a + 1)) [] (a + 1) with
  | none => rw [hp] at h; cases h
  | some f =>
    rw [hp] at h
    simp only at h ⊢
    have hf := pS_le hp
    rw [List.length_drop] at hf
    by_cases e1 : f = l.length
    · rw [if_pos e1] at h; cases h
    · rw [if_neg e1] at h ⊢
      have hfl : f < l.length := by
        by_cases ha : a + 1 ≤ l.length
        · omega
        · rw [List.drop_eq_nil_of_le (by omega)] at hp
          simp [pS] at hp
          have : l[f]? ≠ some 4 := by rw [List.getElem?_eq_none (by omega)]; simp
          rw [if_neg this, List.drop_eq_nil_of_le (by omega)] at h
          simp only [pS, if_true] at h
          rw [if_pos (.inr (by rw [List.getElem?_eq_none (by omega)]; simp))] at h; cases h
      by_cases e4 : l[f]? = some 4
      · rw [if_pos e4]; exact ⟨f, f, rfl, rfl, hfl, .inl ⟨rfl, e4⟩⟩
      · rw [if_neg e4] at h ⊢
        have he := pS_end hp (by rw [List.length_drop]; omega)
        rw [List.getElem?_drop, show a + 1 + (f - (a + 1)) = f by omega] at he
        have e3 : l[f]? = some 3 := he.resolve_right e4
        cases hq : pS (l.drop (f + 1)) [] (f + 1) with
        | none => rw [hq] at h; cases h
        | some e =>
          rw [hq] at h
          simp only at h ⊢
          have hg := pS_le hq
          rw [List.length_drop] at hg
          by_cases e5 : e = l.length ∨ l[e]? ≠ some 4
          · rw [if_pos e5] at h; cases h
          · rw [if_neg e5]
            have e6 : e ≠ l.length := fun x => e5 (.inl x)
            have e7 : l[e]? = some 4 := Classical.not_not.1 fun x => e5 (.inr x)
            exact ⟨f, e, rfl, rfl, hfl, .inr ⟨by omega, e3, hq, by omega, e7⟩⟩
theorem op_of {l : List Stp} {a : Nat} {v : Int} (h : (opsS l)[a]? = some v) : ∃ ha : a < l.length, (l[a]).1 = v := by
  rw [List.getElem?_map] at h
  obtain ⟨x, h1, h2⟩ := Option.map_eq_some_iff.1 h
  obtain ⟨h3, h4⟩ := List.getElem?_eq_some_iff.1 h1
  exact ⟨h3, by rw [h4]; exact h2⟩
theorem run_if {l : List Stp} {a b : Nat} {st : List (List UInt8)} (hB : Bal l a b) (h : a < b) (hl : a < l.length) (h2 : (l[a]).1 = 2) :
    (partsR (opsS l) a).ok = true ∧ ∃ f e : Nat, (partsR (opsS l) a).f = f ∧ (partsR (opsS l) a).e = e ∧ a < f ∧ f ≤ e ∧ e < b ∧ b ≤ l.length ∧ Bal l (a + 1) f ∧ (f < e → Bal l (f + 1) e) ∧ Bal l (e + 1) b ∧
      (¬ popE st 1 = 0 → runR ht dg l a b st = ([], false)) ∧
      (popE st 1 = 0 → trueB ((popX st 1).getD 0 []) = true → runR ht dg l a b st = if (runR ht dg l (a + 1) f (popC st 1)).2 = true then runR ht dg l (e + 1) b (runR ht dg l (a + 1) f (popC st 1)).1 else ([], false)) ∧
      (popE st 1 = 0 → trueB ((popX st 1).getD 0 []) = false → f < e → runR ht dg l a b st = if (runR ht dg l (f + 1) e (popC st 1)).2 = true then runR ht dg l (e + 1) b (runR ht dg l (f + 1) e (popC st 1)).1 else ([], false)) ∧
      (popE st 1 = 0 → trueB ((popX st 1).getD 0 []) = false → ¬ f < e → runR ht dg l a b st = runR ht dg l (e + 1) b (popC st 1)) := by
  have hlo : (opsS l).length = l.length := List.length_map ..
  have hg : (opsS l)[a]? = some 2 := by rw [List.getElem?_map, List.getElem?_eq_getElem hl]; simp [h2]
  have hbl : b ≤ l.length := by
    have := (pS_le hB).2
    rw [List.length_drop] at this; omega
  rcases pS_parts (l := opsS l) (a := a) (by omega) hg [] with ⟨_, h0⟩ | ⟨h0, f, e, hf, he, a1, a2, a3, a4⟩
  · rw [show pS ((opsS l).drop a) [] a = some b from hB] at h0; cases h0
  · obtain ⟨f', e', hP, p1, p2, p3⟩ := parts_ok h0
    rw [hP] at hf he
    simp only [Int.natCast_inj] at hf he
    subst hf he
    have hBe : Bal l (e' + 1) b := by unfold Bal; rw [← a4]; exact hB
    have hBf : Bal l (a + 1) f' := p1
    have heb : e' < b := by have := hBe.le; omega
    refine ⟨h0, f', e', by rw [hP], by rw [hP], a1, a2, heb, hbl, hBf, ?_, hBe, ?_⟩
    · intro hlt
      rcases p3 with ⟨p4, _⟩ | ⟨_, _, p4, _⟩
      · omega
      · exact p4
    have hsp := hBf.scan
    have hx : (l[a]).1 = 2 := h2
    have e0 : seg l a b = l[a] :: seg l (a + 1) b := seg_cons h hl
    refine ⟨fun hn => by unfold runR; rw [e0]; exact if_no hx hn, ?_⟩
    rcases p3 with ⟨rfl, p4⟩ | ⟨p4, p5, p6, p7, p8⟩
    · obtain ⟨hfl, hy⟩ := op_of p4
      have e1 : seg l a b = l[a] :: (seg l (a + 1) f' ++ l[f'] :: seg l (f' + 1) b) := by
        rw [e0, seg_app (b := f') (by omega) (by omega) hbl, seg_cons (a := f') (by omega) hfl]
      refine ⟨fun hz ht' => ?_, fun hz ht' hlt => absurd hlt (by omega), fun hz ht' _ => ?_⟩
      · unfold runR; rw [e1]; exact if1_t hx hy hsp hz ht'
      · unfold runR; rw [e1]; exact if1_f hx hy hsp hz ht'
    · obtain ⟨hfl, hy⟩ := op_of p5
      obtain ⟨hel, hz4⟩ := op_of p8
      have hsq := Bal.scan (l := l) (a := f' + 1) (b := e') p6
      have e1 : seg l a b = l[a] :: (seg l (a + 1) f' ++ l[f'] :: (seg l (f' + 1) e' ++ l[e'] :: seg l (e' + 1) b)) := by
        rw [e0, seg_app (a := a + 1) (b := f') (by omega) (by omega) hbl, seg_cons (a := f') (by omega) hfl, seg_app (a := f' + 1) (b := e') (by omega) (by omega) hbl, seg_cons (a := e') (by omega) hel]
      refine ⟨fun hz ht' => ?_, fun hz ht' hlt => ?_, fun hz ht' hlt => absurd p4 hlt⟩
      · unfold runR; rw [e1]; exact if2_t hx hy hz4 hsp hsq hz ht'
      · unfold runR; rw [e1]; exact if2_f hx hy hz4 hsp hsq hz ht'
/-! the whole -/
theorem pushM_stk : ∀ {b a : List (List UInt8)}, StkN a → (StkN (a ++ b) → pushM ⟨a, [], 0⟩ b = ⟨a ++ b, [], 0⟩) ∧ (¬ StkN (a ++ b) → (pushM ⟨a, [], 0⟩ b).e ≠ 0)
  | [], a, ha => ⟨fun _ => by simp [pushM], fun h => absurd (by simpa using ha) h⟩
  | c :: b, a, ha => by
    by_cases h : a.length ≥ 64 ∨ c.length > 3000
    · have h1 : ¬ StkN (a ++ c :: b) := fun hs => by
        have := hs.1; rw [List.length_append, List.length_cons] at this
        have := hs.2 c (by simp)
        omega
      have h2 : ¬ pushE a c = 0 := by unfold pushE; rw [if_pos h]; decide
      refine ⟨fun x => absurd x h1, fun _ => ?_⟩
      unfold pushM; rw [if_neg h2]; exact show (8 : Int) ≠ 0 by decide
    · have h2 : pushE a c = 0 := by unfold pushE; rw [if_neg h]
      have h3 : pushC a c = a ++ [c] := by unfold pushC; rw [if_neg h]
      have ih := pushM_stk (b := b) (a := a ++ [c]) (by rw [← h3]; exact pushC_ok ha)
      unfold pushM
      rw [if_pos h2, h3, show a ++ c :: b = a ++ [c] ++ b by simp]
      exact ih
theorem stk_nil : StkN [] := ⟨by simp, fun c hc => by cases hc⟩
def refX (l : List Stp) (st : List (List UInt8)) (ht : Int) (dg : List UInt8) : List (List UInt8) × Int :=
  if putSE l = 0 ∧ StkN st ∧ soundB (opsS l) = true then (if (runR ht dg l 0 l.length st).2 = true then ((runR ht dg l 0 l.length st).1, 0) else ([], 8)) else ([], 8)
theorem seg_all {l : List Stp} : seg l 0 l.length = l := by unfold seg; simp
/-- the program is the document -/
theorem steps_ref {l : List Stp} {st : List (List UInt8)} : stepsX l st ht dg = refX l st ht dg := by
  unfold stepsX refX
  by_cases hP : putSE l = 0
  · rw [if_pos hP]
    have hp := pushM_stk (b := st) (a := []) stk_nil
    rw [List.nil_append] at hp
    by_cases hs : StkN st
    · rw [hp.1 hs]
      have hT := track (ht := ht) (dg := dg) (l := l) (m := ⟨st, [], 0⟩)
      by_cases hS : soundB (opsS l) = true
      · rw [if_pos ⟨hP, hs, hS⟩]
        have hsc := of_decide_eq_true hS
        unfold runR
        rw [seg_all]
        by_cases he : (stepsG ht dg l ⟨st, [], 0⟩).e = 0
        · have e1 := hT he
          rw [show bs2 ([] : List PtG) = [] from rfl, hsc] at e1
          have e0 : (stepsG ht dg l ⟨st, [], 0⟩).ps = [] := List.map_eq_nil_iff.1 (Option.some.inj e1).symm
          unfold resM rsM
          rw [if_pos ⟨he, e0⟩, if_pos he, if_pos rfl]
        · rw [resM_e he, rsM_e he, if_neg (by decide)]
      · rw [if_neg (fun h => hS h.2.2)]
        unfold resM
        rw [if_neg]
        rintro ⟨he, e0⟩
        have e1 := hT he
        rw [show bs2 ([] : List PtG) = [] from rfl, e0] at e1
        exact hS (decide_eq_true e1)
    · rw [if_neg (fun h => hs h.2.1), stepsG_e (hp.2 hs)]
      exact resM_e (hp.2 hs)
  · rw [if_neg hP, if_neg (fun h => hP h.1)]
theorem bal_all {l : List Stp} (h : soundB (opsS l) = true) : Bal l 0 l.length := by
  rw [sound_pS] at h
  have := of_decide_eq_true h
  unfold Bal; rw [List.drop_zero, this, List.length_map]
end
end Go.Proofs.YtkjpemkankefnaaDoor

/-!
  moneyerref14: run, Steps.
-/
namespace Go.Proofs.YtkjpemkankefnaaDoor
open Go.RowKit

section
variable {ht : Int} {dg : List UInt8}
theorem popM_stk {m : MM} {n : Int} (h : StkN m.st) : StkN (popM m n).st := by
  unfold popM; split
  · exact popC_ok h
  · exact h
theorem pushM_stk2 : ∀ {l : List (List UInt8)} {m : MM}, StkN m.st → StkN (pushM m l).st
  | [], m, h => h
  | b :: l, m, h => by
    unfold pushM; split
    · exact pushM_stk2 (m := ⟨pushC m.st b, m.ps, m.e⟩) (pushC_ok h)
    · exact h
theorem failM_stk {m : MM} {b : Bool} (h : StkN m.st) : StkN (failM m b).st := by unfold failM; split <;> exact h
theorem numM_stk {m : MM} {b : List UInt8} (h : StkN m.st) : StkN (numM m b).st := by unfold numM; split <;> exact h
theorem hashM_stk {m : MM} {op : Int} (h : StkN m.st) : StkN (hashM m op ht dg).st := by
  unfold hashM
  repeat' split
  · exact pushM_stk2 (popM_stk h)
  · exact pushM_stk2 (popM_stk h)
  · exact pushM_stk2 (popM_stk h)
  · exact failM_stk (numM_stk (popM_stk h))
  · exact h
theorem stepM_stk {m : MM} {op : Int} {u : List UInt8} (h : StkN m.st) : StkN (stepM m op u ht dg).st := by
  unfold stepM
  repeat' split
  · exact pushM_stk2 h
  · exact failM_stk (popM_stk h)
  · exact pushM_stk2 (popM_stk h)
  · exact popM_stk h
  · exact pushM_stk2 (popM_stk h)
  · exact pushM_stk2 (popM_stk h)
  · exact pushM_stk2 (popM_stk h)
  · exact pushM_stk2 (popM_stk h)
  · exact pushM_stk2 (failM_stk (numM_stk (numM_stk (popM_stk h))))
  · exact hashM_stk h
theorem branchM_stk {m : MM} {op : Int} (h : StkN m.st) : StkN (branchM m op).st := by
  unfold branchM
  split
  · split
    · exact h
    · exact popM_stk h
  · split
    · cases m.ps with
      | nil => exact h
      | cons x r => dsimp only; split <;> exact h
    · split
      · cases m.ps with
        | nil => exact h
        | cons x r => exact h
      · exact h
theorem stepsG_stk : ∀ {l : List Stp} {m : MM}, StkN m.st → StkN (stepsG ht dg l m).st
  | [], m, h => h
  | x :: l, m, h => by
    by_cases h0 : m.e = 0
    · rw [stepsG_c h0]
      refine stepsG_stk ?_
      unfold oneM
      split
      · exact branchM_stk h
      · split
        · exact h
        · exact stepM_stk h
    · rw [stepsG_e h0]; exact h
theorem runR_stk {l : List Stp} {a b : Nat} {st : List (List UInt8)} (h : StkN st) : StkN (runR ht dg l a b st).1 := by
  unfold runR rsM
  split
  · exact stepsG_stk h
  · exact stk_nil
theorem oneX_stk {op : Int} {u : List UInt8} {st : List (List UInt8)} (ho : op = 1 ∨ 5 ≤ op ∧ op ≤ 20) (h : StkN st) (h2 : (oneX op u st ht dg).2 = true) : StkN (oneX op u st ht dg).1 := by
  rcases one_is (ht := ht) (dg := dg) (u := u) (st := st) ho with ⟨_, e⟩ | ⟨e, _⟩
  · have := stepM_stk (ht := ht) (dg := dg) (op := op) (u := u) (m := ⟨st, [], 0⟩) h
    rw [e] at this; exact this
  · rw [e] at h2; cases h2
end
theorem opsK_S (l : List StG) : opsK l = opsS (l.map stK) := by simp [opsK, opsS, stK]
theorem StR.lentR {w0 w : World} {X Y : Nat → Prop} {rest : List Assn} (h : ∀ L' w', St w Y L' w' → St w0 X (L' ++ rest) w') {gs : List StG} (hr : StR w0 X rest gs) (L : List Assn) : StR w Y L gs := ⟨fun w' hw' => hr.get w' (h _ _ hw').dropN⟩
def RunOk (lA : Option Addr) (lc : Nat) (l : List StG) (ht : Int) (dg : List UInt8) (k : Nat) : Prop := ∀ (z t : Int) (S : Sv) (gs : List BsG) (w0 : World) (Y : Nat → Prop), St w0 Y [rw_ 22 RBs S gs.length gs, lot (gs.map bsRow)] w0 → (∀ L', Rw w0 Y L' (.slice lA l.length lc) RSt l) → (∀ L', StR w0 Y L' l) →
    ((0 ≤ z ∧ 0 ≤ t) ∧ Bal (l.map stK) z.toNat t.toNat ∧ t.toNat - z.toNat < k ∧ StkN (gs.map bsK) ∧ t ≤ l.length) →
    Ct Tryd.prog 36 [.slice lA l.length lc, .int .i64 z, .int .i64 t, .slice S.A gs.length S.c, Ag [.one (.int .u32 ht), .blk 32 (RB.all dg)]] w0 Y (fun r : Ow BsG × Bool => .tuple #[.slice r.1.s.A r.1.gs.length r.1.s.c, .bool r.2]) (fun r => [rw_ 22 RBs r.1.s r.1.gs.length r.1.gs, lot (r.1.gs.map bsRow)]) (fun r => r.1.gs.map bsK = (runR ht dg (l.map stK) z.toNat t.toNat (gs.map bsK)).1 ∧ r.2 = (runR ht dg (l.map stK) z.toNat t.toNat (gs.map bsK)).2)
theorem run_c {lA : Option Addr} {lc : Nat} {l : List StG} {ht : Int} {dg : List UInt8} {k : Nat} (h : RunOk lA lc l ht dg k) {w0 : World} {X : Nat → Prop} {L rest : List Assn} {z t : Int} {S : Sv} {gs : List BsG} [hs : Spl L [rw_ 22 RBs S gs.length gs, lot (gs.map bsRow)] rest] [hl : Rw w0 X rest (.slice lA l.length lc) RSt l] [ql : StR w0 X rest l] :
    Ctr Tryd.prog 36 [.slice lA l.length lc, .int .i64 z, .int .i64 t, .slice S.A gs.length S.c, Ag [.one (.int .u32 ht), .blk 32 (RB.all dg)]] w0 X L ((0 ≤ z ∧ 0 ≤ t) ∧ Bal (l.map stK) z.toNat t.toNat ∧ t.toNat - z.toNat < k ∧ StkN (gs.map bsK) ∧ t ≤ l.length) (fun r : Ow BsG => .tuple #[.slice r.s.A r.gs.length r.s.c, .bool (runR ht dg (l.map stK) z.toNat t.toNat (gs.map bsK)).2]) (fun r => rw_ 22 RBs r.s r.gs.length r.gs :: lot (r.gs.map bsRow) :: rest) (fun r => r.gs.map bsK = (runR ht dg (l.map stK) z.toNat t.toNat (gs.map bsK)).1) :=
  ⟨by kernel_rfl, fun hp w hw => by
    obtain ⟨Y, h1, h2⟩ := hw.lendS hs
    refine (h z t S gs w Y h1 (fun L' => Rw.lentR h2 hl L') (fun L' => StR.lentR h2 ql L') hp).mono fun _ w' ⟨r, he, hst, hφ⟩ => ?_
    obtain ⟨o, b⟩ := r
    obtain ⟨ho, rfl⟩ := hφ
    exact ⟨o, he, h2 _ _ hst, ho⟩⟩
theorem run_step (lA : Option Addr) (lc : Nat) (l : List StG) (ht : Int) (dg : List UInt8) [hdg : LenIs dg 32] (hm : MayL (l.map stK)) (hN : l.length ≤ 1000000) (hht : 0 ≤ ht ∧ ht ≤ 4294967295) (k : Nat) (hk : RunOk lA lc l ht dg k) : RunOk lA lc l ht dg (k + 1) := by
  intro z t S gs w0 Y hst i_l j_l hp
  obtain ⟨a, rfl⟩ := Int.eq_ofNat_of_zero_le hp.1.1
  obtain ⟨b, rfl⟩ := Int.eq_ofNat_of_zero_le hp.1.2
  rw [show ((a : Nat) : Int).toNat = a from rfl, show ((b : Nat) : Int).toNat = b from rfl] at *
  obtain ⟨_, hB, hkb, hS, hbl⟩ := hp
  have hab := hB.le
  have i_c : ∀ {w0 : World} {X : Nat → Prop} {L rest : List Assn} {z t : Int} {S : Sv} {gs : List BsG} [hs : Spl L [rw_ 22 RBs S gs.length gs, lot (gs.map bsRow)] rest] [hl : Rw w0 X rest (.slice lA l.length lc) RSt l] [ql : StR w0 X rest l], Ctr Tryd.prog 36 [.slice lA l.length lc, .int .i64 z, .int .i64 t, .slice S.A gs.length S.c, Ag [.one (.int .u32 ht), .blk 32 (RB.all dg)]] w0 X L _ _ _ _ := run_c hk
  show Ct Tryd.prog 36 _ w0 Y (fun r : Ow BsG × Bool => _) _ _
  refine genter _ hst Tryd.func36 rfl rfl rfl rfl ?_
  repeat' (first
   | (refine kO ?_; first | refine gv rfl rfl ?_ | refine gnil ?_ | refine gnilD ?_ | refine gl rfl (lvb rfl rfl) rfl (fun _ => ?_) | refine gl rfl (lvB rfl rfl rfl) rfl (fun _ => ?_) | refine gl rfl (lve rfl rfl) rfl (fun _ => ?_) | refine gl rfl (lvE rfl rfl rfl) rfl (fun _ => ?_) | refine gl rfl (lva rfl rfl rfl rfl rfl) rfl (fun _ => ?_) | refine gp rfl (by (try simp only [InR]); omega) rfl ?_ | refine gf rfl rfl rfl ?_ | refine gix rfl rfl rfl rfl (by omega) rfl (fun _ => ?_) | refine gixa rfl rfl rfl rfl (by omega) rfl (fun _ => ?_) | (refine kK ?_; first | refine gcall rfl ?_ rfl (fun _ _ => ?_) (fun _ _ => ?_) | refine gcv rfl rfl ?_ rfl (fun _ _ => ?_) (fun _ _ => ?_) | refine gcc1 rfl rfl ?_ rfl (fun _ _ => ?_) (fun _ _ => ?_)) | refine gneq rfl rfl (by kernel_rfl) ?_ rfl ?_ | refine gx rfl rfl (fun _ => ?_) (fun _ => ?_) | refine gw rfl rfl ?_)
   | (refine kC ?_; first | refine gseq ?_ | refine greg ?_ | refine gret ?_ | refine gskip ?_ | refine gdraw (id := 3) [0,1,2,3,4,5,6,7,8,9,10,11] (by kernel_rfl) (by kernel_rfl) rfl ?_ | (refine gcond rfl (fun h => ?_) (fun h => ?_) <;> (first | exact h.elim | (exfalso; omega) | exact absurd h (by assumption) | exact absurd (by assumption) h | skip)) | refine gblk ?_ | refine gexit ?_)
   | (refine kN ?_; first | refine gthen ?_ | refine gnblk ?_)
   | (refine kR ?_; first | refine grs ?_ | refine grb ?_ | refine grl ?_ | refine grc ?_)
   | (refine kX ?_; first | refine gxs ?_ | refine gxb ?_ | refine gxn rfl ?_ | refine gxl ?_ | refine gxc ?_)
   | (refine kR ?_; refine gr rfl (rvT rfl (rvT rfl rv0)) (⟨⟨_, _⟩, _⟩, _) rfl (er (elot Ent.nil)) ?_)
   | (refine kR ?_; refine gr rfl (rvT rfl (rvT rfl rv0)) (⟨⟨none, 0⟩, []⟩, _) rfl (er0 (elot0 Ent.nil)) ?_)
   | (refine Pre.mk ?_; first | exact True.intro | omega | ((repeat' (first | refine And.intro ?_ ?_ | exact True.intro | assumption | omega)); done) | (simp only [and_true, true_and, or_true, true_or]; first | done | omega))
   | (refine kD ?_; first | exact dm_none | exact dm0 | refine dmOff rfl ?_ | refine dmOn (lvb rfl rfl) ?_ | refine dmOn (lvB rfl rfl rfl) ?_ | refine dmOn (lve rfl rfl) ?_ | refine dmOn (lvE rfl rfl rfl) ?_ | refine dmOn (lva rfl rfl rfl rfl rfl) ?_))
  rename_i g9
  refine gloop2 [0, 2, 9] (fun (j : Nat) (m : Ow BsG) K => (1, .int .i64 j) :: (3, .slice m.s.A m.gs.length m.s.c) :: K) (fun j m => [rw_ 22 RBs m.s m.gs.length m.gs, lot (m.gs.map bsRow), boxA g9 27 [.one (.int .u32 ht), .blk 32 (RB.all dg)]]) (fun j m => (a ≤ j ∧ j ≤ b) ∧ StkN (m.gs.map bsK) ∧ Bal (l.map stK) j b ∧ runR ht dg (l.map stK) a b (gs.map bsK) = runR ht dg (l.map stK) j b (m.gs.map bsK)) (fun j m => b - j) a ⟨S, gs⟩ rfl (by repeat (first | exact trivial | refine ⟨rfl, ?_⟩)) (er (elot (eb Ent.nil))) ⟨⟨Nat.le_refl _, hab⟩, hS, hB, rfl⟩ (fun j m hj => ?_)
  obtain ⟨⟨j1, j2⟩, j3, j4, j5⟩ := hj
  rw [j5]
  by_cases hlt : j < b
  · have hjl : j < (l.map stK).length := by rw [List.length_map]; omega
    have hx : (l.map stK)[j] = stK (ixd l (j : Int)) := by rw [List.getElem_map, ixd_eq (by omega)]; rfl
    have hmy := mayL_at hm (i := (j : Int)) ⟨by omega, by omega⟩
    have hpu : (ixd l (j : Int)).push.length ≤ 100000 := by unfold mayS at hmy; split at hmy <;> omega
    by_cases h2 : (ixd l (j : Int)).op = 2
    · have hR := run_if (ht := ht) (dg := dg) (st := m.gs.map bsK) j4 hlt hjl (by rw [hx]; exact h2)
      obtain ⟨p0, f, e, pf, pe, f1, f2, f3, f4, Bf, Be, Bb, r1, r2, r3, r4⟩ := hR
      have i_p : ∀ {w0 : World} {X : Nat → Prop} {L : List Assn} [hl : Rw w0 X L (.slice lA l.length lc) RSt l], Ctr Tryd.prog 58 [.slice lA l.length lc, .int .i64 (j : Int)] w0 X L True (fun _ : Unit => .tuple #[.int .i64 f, .int .i64 e, .bool true]) (fun _ : Unit => L) (fun _ : Unit => True) := fun {w0 X L} [hl : Rw w0 X L (.slice lA l.length lc) RSt l] => by
        have h := c_ref14_parts (w0 := w0) (X := X) (L := L) (lA := lA) (lc := lc) (ln := l.length) (l := l) (z := (j : Int))
        rw [show ((j : Nat) : Int).toNat = j from rfl, opsK_S, pf, pe, p0] at h
        exact ⟨h.ok, fun _ w hw => h.go ⟨by omega, by omega, hN⟩ w hw⟩
      clear p0 pf pe
      repeat' (first
       | (refine kO ?_; first | refine gv rfl rfl ?_ | refine gnil ?_ | refine gnilD ?_ | refine gl rfl (lvb rfl rfl) rfl (fun _ => ?_) | refine gl rfl (lvB rfl rfl rfl) rfl (fun _ => ?_) | refine gl rfl (lve rfl rfl) rfl (fun _ => ?_) | refine gl rfl (lvE rfl rfl rfl) rfl (fun _ => ?_) | refine gl rfl (lva rfl rfl rfl rfl rfl) rfl (fun _ => ?_) | refine gp rfl (by (try simp only [InR]); omega) rfl ?_ | refine gf rfl rfl rfl ?_ | refine gix rfl rfl rfl rfl (by omega) rfl (fun _ => ?_) | refine gixa rfl rfl rfl rfl (by omega) rfl (fun _ => ?_) | (refine kK ?_; first | refine gcall rfl ?_ rfl (fun _ _ => ?_) (fun _ _ => ?_) | refine gcv rfl rfl ?_ rfl (fun _ _ => ?_) (fun _ _ => ?_) | refine gcc1 rfl rfl ?_ rfl (fun _ _ => ?_) (fun _ _ => ?_)) | refine gneq rfl rfl (by kernel_rfl) ?_ rfl ?_ | refine gx rfl rfl (fun _ => ?_) (fun _ => ?_) | refine gw rfl rfl ?_)
       | (refine kC ?_; first | refine gseq ?_ | refine greg ?_ | refine gret ?_ | refine gskip ?_ | refine gdraw (id := 3) [0,1,2,3,4,5,6,7,8,9,10,11] (by kernel_rfl) (by kernel_rfl) rfl ?_ | (refine gcond rfl (fun h => ?_) (fun h => ?_) <;> (first | exact h.elim | (exfalso; omega) | exact absurd h (by assumption) | exact absurd (by assumption) h | skip)) | refine gblk ?_ | refine gexit ?_)
       | (refine kN ?_; first | refine gthen ?_ | refine gnblk ?_)
       | (refine kR ?_; first | refine grs ?_ | refine grb ?_ | refine grl ?_ | refine grc ?_)
       | (refine kX ?_; first | refine gxs ?_ | refine gxb ?_ | refine gxn rfl ?_ | refine gxl ?_ | refine gxc ?_)
       | (refine kR ?_; refine gr rfl (rvT rfl (rvT rfl rv0)) (⟨⟨_, _⟩, _⟩, _) rfl (er (elot Ent.nil)) ?_)
       | (refine kR ?_; refine gr rfl (rvT rfl (rvT rfl rv0)) (⟨⟨none, 0⟩, []⟩, _) rfl (er0 (elot0 Ent.nil)) ?_)
       | exact Pre.mk j3
       | (refine Pre.mk ?_; first | exact True.intro | omega | ((repeat' (first | refine And.intro ?_ ?_ | exact True.intro | assumption | omega)); done) | (simp only [and_true, true_and, or_true, true_or]; first | done | omega))
       | (refine kD ?_; first | exact dm_none | exact dm0 | refine dmOff rfl ?_ | refine dmOn (lvb rfl rfl) ?_ | refine dmOn (lvB rfl rfl rfl) ?_ | refine dmOn (lve rfl rfl) ?_ | refine dmOn (lvE rfl rfl rfl) ?_ | refine dmOn (lva rfl rfl rfl rfl rfl) ?_))
      · rw [r1 h]; exact ⟨rfl, rfl⟩
      rename_i x hx2
      have hx0 := hx2.2.2.1 h
      replace r2 := r2 h
      replace r3 := r3 h
      replace r4 := r4 h
      rw [← hx2.2.2.2.1, ← hx2.1] at r2 r3 r4
      have hS1 : StkN (x.1.gs.map bsK) := by rw [hx2.1]; exact popC_ok j3
      have ej : ((j : Int) + 1).toNat = j + 1 := by omega
      have ef : ((f : Int) + 1).toNat = f + 1 := by omega
      have ef0 : ((f : Nat) : Int).toNat = f := rfl
      have ee0 : ((e : Nat) : Int).toNat = e := rfl
      clear r1
      rw [List.length_map] at f4
      have q1 : Bal (l.map stK) ((j : Int) + 1).toNat ((f : Nat) : Int).toNat := by rw [ej]; exact Bf
      have q2 : (f : Int) < (e : Int) → Bal (l.map stK) ((f : Int) + 1).toNat ((e : Nat) : Int).toNat := fun hlt => by rw [ef]; exact Be (by omega)
      repeat' (first
       | (refine kO ?_; first | refine gv rfl rfl ?_ | refine gnil ?_ | refine gnilD ?_ | refine gl rfl (lvb rfl rfl) rfl (fun _ => ?_) | refine gl rfl (lvB rfl rfl rfl) rfl (fun _ => ?_) | refine gl rfl (lve rfl rfl) rfl (fun _ => ?_) | refine gl rfl (lvE rfl rfl rfl) rfl (fun _ => ?_) | refine gl rfl (lva rfl rfl rfl rfl rfl) rfl (fun _ => ?_) | refine gp rfl (by (try simp only [InR]); omega) rfl ?_ | refine gf rfl rfl rfl ?_ | refine gix rfl rfl rfl rfl (by omega) rfl (fun _ => ?_) | refine gixa rfl rfl rfl rfl (by omega) rfl (fun _ => ?_) | (refine kK ?_; first | refine gcall rfl ?_ rfl (fun _ _ => ?_) (fun _ _ => ?_) | refine gcv rfl rfl ?_ rfl (fun _ _ => ?_) (fun _ _ => ?_) | refine gcc1 rfl rfl ?_ rfl (fun _ _ => ?_) (fun _ _ => ?_)) | refine gneq rfl rfl (by kernel_rfl) ?_ rfl ?_ | refine gx rfl rfl (fun _ => ?_) (fun _ => ?_) | refine gw rfl rfl ?_)
       | (refine kC ?_; first | refine gseq ?_ | refine greg ?_ | refine gret ?_ | refine gskip ?_ | refine gdraw (id := 3) [0,1,2,3,4,5,6,7,8,9,10,11] (by kernel_rfl) (by kernel_rfl) rfl ?_ | (refine gcond rfl (fun h => ?_) (fun h => ?_) <;> (first | exact h.elim | (exfalso; omega) | exact absurd h (by assumption) | exact absurd (by assumption) h | skip)) | refine gblk ?_ | refine gexit ?_)
       | (refine kN ?_; first | refine gthen ?_ | refine gnblk ?_)
       | (refine kR ?_; first | refine grs ?_ | refine grb ?_ | refine grl ?_ | refine grc ?_)
       | (refine kX ?_; first | refine gxs ?_ | refine gxb ?_ | refine gxn rfl ?_ | refine gxl ?_ | refine gxc ?_)
       | (refine kR ?_; refine gr rfl (rvT rfl (rvT rfl rv0)) (⟨⟨_, _⟩, _⟩, _) rfl (er (elot Ent.nil)) ?_)
       | (refine kR ?_; refine gr rfl (rvT rfl (rvT rfl rv0)) (⟨⟨none, 0⟩, []⟩, _) rfl (er0 (elot0 Ent.nil)) ?_)
       | exact Pre.mk ⟨by omega, q1, by omega, hS1, by omega⟩
       | exact Pre.mk ⟨by omega, q2 (by assumption), by omega, hS1, by omega⟩
       | (refine Pre.mk ?_; first | exact True.intro | omega | ((repeat' (first | refine And.intro ?_ ?_ | exact True.intro | assumption | omega)); done) | (simp only [and_true, true_and, or_true, true_or]; first | done | omega))
       | (refine kD ?_; first | exact dm_none | exact dm0 | refine dmOff rfl ?_ | refine dmOn (lvb rfl rfl) ?_ | refine dmOn (lvB rfl rfl rfl) ?_ | refine dmOn (lve rfl rfl) ?_ | refine dmOn (lvE rfl rfl rfl) ?_ | refine dmOn (lva rfl rfl rfl rfl rfl) ?_))
      · rw [ej, ef0] at h
        rw [r2 (by assumption), if_neg (by rw [h]; decide)]; exact ⟨rfl, rfl⟩
      · rename_i y hy
        rw [ej, ef0] at h hy
        refine gnl2 (e + 1) y (by repeat (first | exact trivial | refine ⟨rfl, ?_⟩)) (er (elot (eb Ent.nil))) ⟨by omega, by rw [hy]; exact runR_stk hS1, Bb, ?_⟩ (by omega)
        rw [r2 (by assumption), if_pos h, hy]
      · rw [ef, ee0] at h
        rw [r3 (by assumption) (by omega), if_neg (by rw [h]; decide)]; exact ⟨rfl, rfl⟩
      · rename_i y hy
        rw [ef, ee0] at h hy
        refine gnl2 (e + 1) y (by repeat (first | exact trivial | refine ⟨rfl, ?_⟩)) (er (elot (eb Ent.nil))) ⟨by omega, by rw [hy]; exact runR_stk hS1, Bb, ?_⟩ (by omega)
        rw [r3 (by assumption) (by omega), if_pos h, hy]
      · refine gnl2 (e + 1) x.1 (by repeat (first | exact trivial | refine ⟨rfl, ?_⟩)) (er (elot (eb Ent.nil))) ⟨by omega, hS1, Bb, ?_⟩ (by omega)
        rw [r4 (by assumption) (by omega)]
    · have hR := run_one (ht := ht) (dg := dg) (st := m.gs.map bsK) j4 hlt hjl hm (by rw [hx]; exact h2)
      rw [hx] at hR
      obtain ⟨b1, b2, b3⟩ := hR
      have b2' : (ixd l (j : Int)).op = 1 ∨ 5 ≤ (ixd l (j : Int)).op ∧ (ixd l (j : Int)).op ≤ 20 := b2
      repeat' (first
       | (refine kO ?_; first | refine gv rfl rfl ?_ | refine gnil ?_ | refine gnilD ?_ | refine gl rfl (lvb rfl rfl) rfl (fun _ => ?_) | refine gl rfl (lvB rfl rfl rfl) rfl (fun _ => ?_) | refine gl rfl (lve rfl rfl) rfl (fun _ => ?_) | refine gl rfl (lvE rfl rfl rfl) rfl (fun _ => ?_) | refine gl rfl (lva rfl rfl rfl rfl rfl) rfl (fun _ => ?_) | refine gp rfl (by (try simp only [InR]); omega) rfl ?_ | refine gf rfl rfl rfl ?_ | refine gix rfl rfl rfl rfl (by omega) rfl (fun _ => ?_) | refine gixa rfl rfl rfl rfl (by omega) rfl (fun _ => ?_) | (refine kK ?_; first | refine gcall rfl ?_ rfl (fun _ _ => ?_) (fun _ _ => ?_) | refine gcv rfl rfl ?_ rfl (fun _ _ => ?_) (fun _ _ => ?_) | refine gcc1 rfl rfl ?_ rfl (fun _ _ => ?_) (fun _ _ => ?_)) | refine gneq rfl rfl (by kernel_rfl) ?_ rfl ?_ | refine gx rfl rfl (fun _ => ?_) (fun _ => ?_) | refine gw rfl rfl ?_)
       | (refine kC ?_; first | refine gseq ?_ | refine greg ?_ | refine gret ?_ | refine gskip ?_ | refine gdraw (id := 3) [0,1,2,3,4,5,6,7,8,9,10,11] (by kernel_rfl) (by kernel_rfl) rfl ?_ | (refine gcond rfl (fun h => ?_) (fun h => ?_) <;> (first | exact h.elim | (exfalso; omega) | exact absurd h (by assumption) | exact absurd (by assumption) h | skip)) | refine gblk ?_ | refine gexit ?_)
       | (refine kN ?_; first | refine gthen ?_ | refine gnblk ?_)
       | (refine kR ?_; first | refine grs ?_ | refine grb ?_ | refine grl ?_ | refine grc ?_)
       | (refine kX ?_; first | refine gxs ?_ | refine gxb ?_ | refine gxn rfl ?_ | refine gxl ?_ | refine gxc ?_)
       | (refine kR ?_; refine gr rfl (rvT rfl (rvT rfl rv0)) (⟨⟨_, _⟩, _⟩, _) rfl (er (elot Ent.nil)) ?_)
       | (refine kR ?_; refine gr rfl (rvT rfl (rvT rfl rv0)) (⟨⟨none, 0⟩, []⟩, _) rfl (er0 (elot0 Ent.nil)) ?_)
       | exact Pre.mk ⟨b2', j3, hht, by omega⟩
       | (refine Pre.mk ?_; first | exact True.intro | omega | ((repeat' (first | refine And.intro ?_ ?_ | exact True.intro | assumption | omega)); done) | (simp only [and_true, true_and, or_true, true_or]; first | done | omega))
       | (refine kD ?_; first | exact dm_none | exact dm0 | refine dmOff rfl ?_ | refine dmOn (lvb rfl rfl) ?_ | refine dmOn (lvB rfl rfl rfl) ?_ | refine dmOn (lve rfl rfl) ?_ | refine dmOn (lvE rfl rfl rfl) ?_ | refine dmOn (lva rfl rfl rfl rfl rfl) ?_))
      · have h' : ¬ (oneX (stK (ixd l (j : Int))).1 (stK (ixd l (j : Int))).2 (m.gs.map bsK) ht dg).2 = true := fun hc => by
          rw [show (oneX (stK (ixd l (j : Int))).1 (stK (ixd l (j : Int))).2 (m.gs.map bsK) ht dg).2 = false from h] at hc; cases hc
        rw [b3, if_neg h']; exact ⟨rfl, rfl⟩
      · rename_i y hy
        refine gnl2 (j + 1) y (by repeat (first | exact trivial | refine ⟨rfl, ?_⟩)) (er (elot (eb Ent.nil))) ⟨by omega, by rw [hy.2.1]; exact oneX_stk b2' j3 h, b1, ?_⟩ (by omega)
        rw [b3, hy.2.1]
        exact if_pos h
  · obtain rfl : j = b := by omega
    rw [run_end (Nat.le_refl _)]
    repeat' (first
     | (refine kO ?_; first | refine gv rfl rfl ?_ | refine gnil ?_ | refine gnilD ?_ | refine gl rfl (lvb rfl rfl) rfl (fun _ => ?_) | refine gl rfl (lvB rfl rfl rfl) rfl (fun _ => ?_) | refine gl rfl (lve rfl rfl) rfl (fun _ => ?_) | refine gl rfl (lvE rfl rfl rfl) rfl (fun _ => ?_) | refine gl rfl (lva rfl rfl rfl rfl rfl) rfl (fun _ => ?_) | refine gp rfl (by (try simp only [InR]); omega) rfl ?_ | refine gf rfl rfl rfl ?_ | refine gix rfl rfl rfl rfl (by omega) rfl (fun _ => ?_) | refine gixa rfl rfl rfl rfl (by omega) rfl (fun _ => ?_) | (refine kK ?_; first | refine gcall rfl ?_ rfl (fun _ _ => ?_) (fun _ _ => ?_) | refine gcv rfl rfl ?_ rfl (fun _ _ => ?_) (fun _ _ => ?_) | refine gcc1 rfl rfl ?_ rfl (fun _ _ => ?_) (fun _ _ => ?_)) | refine gneq rfl rfl (by kernel_rfl) ?_ rfl ?_ | refine gx rfl rfl (fun _ => ?_) (fun _ => ?_) | refine gw rfl rfl ?_)
     | (refine kC ?_; first | refine gseq ?_ | refine greg ?_ | refine gret ?_ | refine gskip ?_ | refine gdraw (id := 3) [0,1,2,3,4,5,6,7,8,9,10,11] (by kernel_rfl) (by kernel_rfl) rfl ?_ | (refine gcond rfl (fun h => ?_) (fun h => ?_) <;> (first | exact h.elim | (exfalso; omega) | exact absurd h (by assumption) | exact absurd (by assumption) h | skip)) | refine gblk ?_ | refine gexit ?_)
     | (refine kN ?_; first | refine gthen ?_ | refine gnblk ?_)
     | (refine kR ?_; first | refine grs ?_ | refine grb ?_ | refine grl ?_ | refine grc ?_)
     | (refine kX ?_; first | refine gxs ?_ | refine gxb ?_ | refine gxn rfl ?_ | refine gxl ?_ | refine gxc ?_)
     | (refine kR ?_; refine gr rfl (rvT rfl (rvT rfl rv0)) (⟨⟨_, _⟩, _⟩, _) rfl (er (elot Ent.nil)) ?_)
     | (refine kR ?_; refine gr rfl (rvT rfl (rvT rfl rv0)) (⟨⟨none, 0⟩, []⟩, _) rfl (er0 (elot0 Ent.nil)) ?_)
     | (refine Pre.mk ?_; first | exact True.intro | omega | ((repeat' (first | refine And.intro ?_ ?_ | exact True.intro | assumption | omega)); done) | (simp only [and_true, true_and, or_true, true_or]; first | done | omega))
     | (refine kD ?_; first | exact dm_none | exact dm0 | refine dmOff rfl ?_ | refine dmOn (lvb rfl rfl) ?_ | refine dmOn (lvB rfl rfl rfl) ?_ | refine dmOn (lve rfl rfl) ?_ | refine dmOn (lvE rfl rfl rfl) ?_ | refine dmOn (lva rfl rfl rfl rfl rfl) ?_))
    exact ⟨rfl, rfl⟩
theorem run_all (lA : Option Addr) (lc : Nat) (l : List StG) (ht : Int) (dg : List UInt8) [hdg : LenIs dg 32] (hm : MayL (l.map stK)) (hN : l.length ≤ 1000000) (hht : 0 ≤ ht ∧ ht ≤ 4294967295) : ∀ k, RunOk lA lc l ht dg k
  | 0 => fun z t S gs w0 Y hst i_l j_l hp => by omega
  | k + 1 => run_step lA lc l ht dg hm hN hht k (run_all lA lc l ht dg hm hN hht k)
instance c_ref14_run {w0 : World} {X : Nat → Prop} {L rest : List Assn} {lA : Option Addr} {lc ln : Nat} {l : List StG} {ht : Int} {dg : List UInt8} [hdg : LenIs dg 32] {z t : Int} {S : Sv} {gs : List BsG} [hs : Spl L [rw_ 22 RBs S gs.length gs, lot (gs.map bsRow)] rest] [hl : Rw w0 X rest (.slice lA ln lc) RSt l] [ql : StR w0 X rest l] :
    Ctr Tryd.prog 36 [.slice lA ln lc, .int .i64 z, .int .i64 t, .slice S.A gs.length S.c, Ag [.one (.int .u32 ht), .blk 32 (RB.all dg)]] w0 X L (MayL (l.map stK) ∧ l.length ≤ 1000000 ∧ (0 ≤ ht ∧ ht ≤ 4294967295) ∧ (0 ≤ z ∧ 0 ≤ t) ∧ Bal (l.map stK) z.toNat t.toNat ∧ StkN (gs.map bsK) ∧ t ≤ l.length) (fun r : Ow BsG => .tuple #[.slice r.s.A r.gs.length r.s.c, .bool (runR ht dg (l.map stK) z.toNat t.toNat (gs.map bsK)).2]) (fun r => rw_ 22 RBs r.s r.gs.length r.gs :: lot (r.gs.map bsRow) :: rest) (fun r => r.gs.map bsK = (runR ht dg (l.map stK) z.toNat t.toNat (gs.map bsK)).1) :=
  ⟨by kernel_rfl, fun hp w hw => by
    obtain ⟨Y, h1, h2⟩ := hw.lendS hs
    have hr := (h2 _ _ h1).dropN
    have e := hl.len hr
    subst e
    refine (run_all lA lc l ht dg hp.1 hp.2.1 hp.2.2.1 (t.toNat - z.toNat + 1) z t S gs w Y h1 (fun L' => Rw.lentR h2 hl L') (fun L' => StR.lentR h2 ql L') ⟨hp.2.2.2.1, hp.2.2.2.2.1, by omega, hp.2.2.2.2.2⟩).mono fun _ w' ⟨r, he, hst, hφ⟩ => ?_
    obtain ⟨o, b⟩ := r
    obtain ⟨ho, rfl⟩ := hφ
    exact ⟨o, he, h2 _ _ hst, ho⟩⟩
theorem popX_all {st : List (List UInt8)} {n : Int} (h : (st.length : Int) = n) : popX st n = st := by
  unfold popX
  rw [if_neg (by omega), show st.length - n.toNat = 0 by omega]; rfl
theorem refX_no {l : List Stp} {st : List (List UInt8)} {ht : Int} {dg : List UInt8} (h : ¬ (putSE l = 0 ∧ StkN st ∧ soundB (opsS l) = true)) : refX l st ht dg = ([], 8) := by unfold refX; rw [if_neg h]
theorem refX_yes {l : List Stp} {st : List (List UInt8)} {ht : Int} {dg : List UInt8} (h : putSE l = 0 ∧ StkN st ∧ soundB (opsS l) = true) : refX l st ht dg = if (runR ht dg l 0 l.length st).2 = true then ((runR ht dg l 0 l.length st).1, 0) else ([], 8) := by unfold refX; rw [if_pos h]
theorem ref14_Steps (lA : Option Addr) (lc : Nat) (l : List StG) (skA : Option Addr) (skc : Nat) (sk : List BsG) (ht : Int) (dg : List UInt8) [hdg : LenIs dg 32] (w0 : World) (hl : Slr w0 RSt (.slice lA l.length lc) l) (q_l : StP w0 l) (hsk : Slr w0 RBs (.slice skA sk.length skc) sk) (q_sk : BsP w0 sk) (hp : StN l ∧ (0 ≤ ht ∧ ht ≤ 4294967295) ∧ l.length ≤ 1000000) :
    Ct Tryd.prog 15 [.slice lA l.length lc, .slice skA sk.length skc, Ag [.one (.int .u32 ht), .blk 32 (RB.all dg)]] w0 no (fun ((o0, e1) : Ow BsG × Int) => .tuple #[.slice o0.s.A o0.gs.length o0.s.c, .int .i64 e1]) (fun (o0, e1) => [rw_ 22 RBs o0.s o0.gs.length o0.gs, lot (o0.gs.map bsRow)]) (fun (o0, e1) => o0.gs.map bsK = (stepsX (l.map stK) (sk.map bsK) ht dg).1 ∧ e1 = (stepsX (l.map stK) (sk.map bsK) ht dg).2) := by
  have hst := St.start w0
  have i_l := Rw.old hl
  have j_l := StR.old q_l
  have i_sk := Rw.old hsk
  have j_sk := BsR.old q_sk
  refine genter _ hst Tryd.func15 rfl rfl rfl rfl ?_
  rw [steps_ref]
  have hcap := hl.cap
  have hml : (l.map stK).length = l.length := List.length_map ..
  repeat' (first
   | (refine kO ?_; first | refine gv rfl rfl ?_ | refine gnil ?_ | refine gl rfl (lvb rfl rfl) rfl (fun _ => ?_) | refine gl rfl (lvB rfl rfl rfl) rfl (fun _ => ?_) | refine gl rfl (lve rfl rfl) rfl (fun _ => ?_) | refine gl rfl (lvE rfl rfl rfl) rfl (fun _ => ?_) | refine gl rfl (lva rfl rfl rfl rfl rfl) rfl (fun _ => ?_) | refine gp rfl (by (try simp only [InR]); omega) rfl ?_ | (refine kK ?_; first | refine gcall rfl ?_ rfl (fun _ _ => ?_) (fun _ _ => ?_) | refine gcv rfl rfl ?_ rfl (fun _ _ => ?_) (fun _ _ => ?_) | refine gcc1 rfl rfl ?_ rfl (fun _ _ => ?_) (fun _ _ => ?_)) | refine gneq rfl rfl (by kernel_rfl) ?_ rfl ?_ | refine gx rfl rfl (fun _ => ?_) (fun _ => ?_) | (refine kg ?_; (first | refine guardT rfl rfl rfl rfl (fun h => ?_) (fun h => ?_) | refine guardF rfl rfl rfl rfl (fun h => ?_) (fun h => ?_) | refine guardU rfl rfl rfl rfl ?_ | refine guardTH rfl rfl rfl rfl ?_ (fun h => ?_) (fun h => ?_) | refine guardFH rfl rfl rfl rfl ?_ (fun h => ?_) (fun h => ?_) | refine guardUH rfl rfl rfl rfl ?_ ?_) <;> (first | exact h.elim | (exfalso; omega) | exact absurd h (by assumption) | exact absurd (by assumption) h | skip)))
   | (refine kC ?_; first | refine gseq ?_ | refine greg ?_ | refine gret ?_ | refine gskip ?_ | (refine gcond rfl (fun h => ?_) (fun h => ?_) <;> (first | exact h.elim | (exfalso; omega) | exact absurd h (by assumption) | exact absurd (by assumption) h | skip)))
   | (refine kN ?_; first | refine gthen ?_)
   | (refine kR ?_; first | refine grs ?_ | refine grc ?_)
   | (refine kR ?_; refine gr rfl (rvT rfl (rvT rfl rv0)) (⟨⟨_, _⟩, _⟩, _) rfl (er (elot Ent.nil)) ?_)
   | (refine kR ?_; refine gr rfl (rvT rfl (rvT rfl rv0)) (⟨⟨none, 0⟩, []⟩, _) rfl (er0 (elot0 Ent.nil)) ?_)
   | exact Pre.mk hp.1
   | (refine Pre.mk ?_; first | exact True.intro | omega | ((repeat' (first | refine And.intro ?_ ?_ | exact True.intro | assumption | omega)); done) | (simp only [and_true, true_and, or_true, true_or]; first | done | omega))
   | (refine kD ?_; first | exact dm_none))
  · show _ = _ ∧ _ = _
    rw [refX_no (fun hc => by rw [← opsK_S, h] at hc; cases hc.2.2)]; exact ⟨rfl, rfl⟩
  · rename_i hx _
    have hP : putSE (l.map stK) = 0 := by assumption
    have hS : StkN (sk.map bsK) := by assumption
    have hB := bal_all (l := l.map stK) (by rw [← opsK_S]; exact h)
    rw [hml] at hB
    exact Pre.mk ⟨(putSE_0 hP).1, hp.2.2, hp.2.1, by omega, hB, by rw [hx.2.1, popX_all (by simp)]; exact hS, by omega⟩
  · rename_i hd hx _ y hy
    have hP : putSE (l.map stK) = 0 := by assumption
    have hS : StkN (sk.map bsK) := by assumption
    rw [hx.2.1, popX_all (by simp)] at h
    have hz : soundB (opsS (l.map stK)) = true := by rw [← opsK_S]; assumption
    have h' : (runR ht dg (l.map stK) 0 (l.map stK).length (sk.map bsK)).2 = false := by rw [hml]; exact h
    show _ = _ ∧ _ = _
    rw [refX_yes ⟨hP, hS, hz⟩, if_neg (by rw [h']; decide)]; exact ⟨rfl, rfl⟩
  · rename_i hd hx _ y hy
    have hP : putSE (l.map stK) = 0 := by assumption
    have hS : StkN (sk.map bsK) := by assumption
    rw [hx.2.1, popX_all (by simp)] at h hy
    have hz : soundB (opsS (l.map stK)) = true := by rw [← opsK_S]; assumption
    have h' : (runR ht dg (l.map stK) 0 (l.map stK).length (sk.map bsK)).2 = true := by rw [hml]; exact h
    show _ = _ ∧ _ = _
    rw [refX_yes ⟨hP, hS, hz⟩, if_pos h', hml]; exact ⟨hy, rfl⟩
  · show _ = _ ∧ _ = _
    rw [refX_no (fun hc => by have := hc.2.1; contradiction)]; exact ⟨rfl, rfl⟩
  · show _ = _ ∧ _ = _
    rw [refX_no (fun hc => by have := hc.1; contradiction)]; exact ⟨rfl, rfl⟩
instance c_ref14_Steps {lA : Option Addr} {lc ln : Nat} {l : List StG} {skA : Option Addr} {skc skn : Nat} {sk : List BsG} {ht : Int} {dg : List UInt8} {w0 : World} {X : Nat → Prop} {L : List Assn} [hl : Rw w0 X L (.slice lA ln lc) RSt l] [q_l : StR w0 X L l] [hsk : Rw w0 X L (.slice skA skn skc) RBs sk] [q_sk : BsR w0 X L sk] [hdg : LenIs dg 32] : Ctr Tryd.prog 15 [.slice lA ln lc, .slice skA skn skc, Ag [.one (.int .u32 ht), .blk 32 (RB.all dg)]] w0 X L (StN l ∧ (0 ≤ ht ∧ ht ≤ 4294967295) ∧ l.length ≤ 1000000) (fun o0 : Ow BsG => .tuple #[.slice o0.s.A o0.gs.length o0.s.c, .int .i64 ((stepsX (l.map stK) (sk.map bsK) ht dg).2)]) (fun o0 : Ow BsG => rw_ 22 RBs o0.s o0.gs.length o0.gs :: lot (o0.gs.map bsRow) :: L) (fun o0 : Ow BsG => (True) ∧ (o0.gs.map bsK = (stepsX (l.map stK) (sk.map bsK) ht dg).1 ∧ o0.gs.length = ((stepsX (l.map stK) (sk.map bsK) ht dg).1).length)) :=
  ctr' (M' := (fun o0 : Ow BsG => [rw_ 22 RBs o0.s o0.gs.length o0.gs, lot (o0.gs.map bsRow)])) (by kernel_rfl) (fun hp w hw => by have el := hl.len hw; subst el; have esk := hsk.len hw; subst esk; exact ref14_Steps _ _ _ _ _ _ _ _ w (hl.get w hw) (q_l.get w hw) (hsk.get w hw) (q_sk.get w hw) hp) (by rintro hp ⟨o0, e1⟩ ⟨q0, rfl⟩ ok; exact ⟨o0, rfl, rfl, ⟨trivial, ⟨q0, by simpa using congrArg List.length q0⟩⟩⟩)
end Go.Proofs.YtkjpemkankefnaaDoor
