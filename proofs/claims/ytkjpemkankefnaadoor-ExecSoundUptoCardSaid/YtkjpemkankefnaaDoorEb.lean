/-
  Stacks: copies, pushes, pops.
-/
import Derived.Test.YtkjpemkankefnaaDoorEa
import Derived.Test.YtkjpemkankefnaaDoorNk
set_option linter.all false
set_option maxRecDepth 100000
set_option maxHeartbeats 4000000
namespace Go.Proofs.YtkjpemkankefnaaDoor
open Go.RowKit

def StkN (cs : List (List UInt8)) : Prop := cs.length ≤ 64 ∧ ∀ c ∈ cs, c.length ≤ 3000
theorem StkN.len {gs : List BsG} (h : StkN (gs.map bsK)) : gs.length ≤ 64 := by have := h.1; simpa using this
theorem StkN.at {gs : List BsG} (h : StkN (gs.map bsK)) {i : Int} (hi : 0 ≤ i ∧ i < gs.length) : (ixd gs i).2.length ≤ 3000 := by
  rw [ixd_eq (by omega)]
  exact h.2 _ (List.mem_map.2 ⟨_, List.getElem_mem _, rfl⟩)
theorem take_bsK {gs : List BsG} {i : Nat} (h : i < gs.length) : (gs.map bsK).take (i + 1) = (gs.map bsK).take i ++ [(ixd gs (i : Int)).2] := by
  rw [List.take_succ_eq_append_getElem (by simpa using h), ixd_eq (by omega)]
  simp
theorem cell_copied (lA : Option Addr) (lc : Nat) (l : List BsG) (w0 : World) (hl : Slr w0 RBs (.slice lA l.length lc) l) (q_l : BsP w0 l) (hp : StkN (l.map bsK)) :
    Ct Tryd.prog 62 [.slice lA l.length lc] w0 no (fun ((o0) : Ow BsG) => .slice o0.s.A o0.gs.length o0.s.c) (fun (o0) => [rw_ 22 RBs o0.s o0.gs.length o0.gs, lot (o0.gs.map bsRow)]) (fun (o0) => o0.gs.map bsK = l.map bsK) := by
  have hst := St.start w0
  have i_l := Rw.old hl
  have j_l := BsR.old q_l
  refine genter _ hst Tryd.func62 rfl rfl rfl rfl ?_
  have hn := hp.len
  repeat' (first
   | (refine kO ?_; first | refine gv rfl rfl ?_ | refine gnil ?_ | refine gl rfl (lvb rfl rfl) rfl (fun _ => ?_) | refine gl rfl (lvB rfl rfl rfl) rfl (fun _ => ?_) | refine gl rfl (lve rfl rfl) rfl (fun _ => ?_) | refine gl rfl (lvE rfl rfl rfl) rfl (fun _ => ?_) | refine gl rfl (lva rfl rfl rfl rfl rfl) rfl (fun _ => ?_) | refine gp rfl (by (try simp only [InR]); omega) rfl ?_ | refine gix rfl rfl rfl rfl (by omega) rfl (fun _ => ?_) | refine gixa rfl rfl rfl rfl (by omega) rfl (fun _ => ?_) | (refine kK ?_; first | refine gcall rfl ?_ rfl (fun _ _ => ?_) (fun _ _ => ?_) | refine gcv rfl rfl ?_ rfl (fun _ _ => ?_) (fun _ _ => ?_) | refine gcc1 rfl rfl ?_ rfl (fun _ _ => ?_) (fun _ _ => ?_)) | refine gap rfl rfl rfl (by omega) rfl (fun _ => ?_) (fun _ => ?_) | refine gan rfl rfl rfl (by omega) rfl (fun _ => ?_) (fun _ => ?_) | refine gapz rfl rfl rfl rfl (by omega) rfl (fun _ => ?_) (fun _ => ?_) | refine ganz rfl rfl rfl rfl (by omega) rfl (fun _ => ?_) (fun _ => ?_) | refine gbs RB rfl rfl rfl rfl rfl rfl (fun _ => ?_) (fun _ => ?_) | refine gbb rfl rfl rfl (by first | (simp; done) | (simp only [and_true]; omega)) rfl rfl rfl rfl (fun _ => ?_) (fun _ => ?_) | refine gw rfl rfl ?_)
   | (refine kC ?_; first | refine gseq ?_ | refine greg ?_ | refine gret ?_ | refine gskip ?_ | (refine gcond rfl (fun h => ?_) (fun h => ?_) <;> (first | exact h.elim | (exfalso; omega) | exact absurd h (by assumption) | exact absurd (by assumption) h | skip)) | refine gblk ?_ | refine gexit ?_)
   | (refine kN ?_; first | refine gthen ?_ | refine gnblk ?_)
   | (refine kR ?_; first | refine grs ?_ | refine grb ?_ | refine grl ?_ | refine grc ?_)
   | (refine kX ?_; first | refine gxs ?_ | refine gxb ?_ | refine gxn rfl ?_ | refine gxl ?_ | refine gxc ?_)
   | (refine kR ?_; refine gr rfl (rvT rfl rv0) (⟨⟨_, _⟩, _⟩) rfl (er (elot Ent.nil)) ?_)
   | (refine kR ?_; refine gr rfl (rvT rfl rv0) (⟨⟨none, 0⟩, []⟩) rfl (er0 (elot0 Ent.nil)) ?_)
   | (refine Pre.mk ?_; first | exact True.intro | omega | ((repeat' (first | refine And.intro ?_ ?_ | exact True.intro | assumption | omega)); done) | (simp only [and_true, true_and, or_true, true_or]; first | done | omega))
   | (refine kD ?_; first | exact dm_none))
  refine gloop3 [6, 7] (fun (i : Nat) (o : List BsG) (s : Sv) K => (3, .slice s.A o.length s.c) :: (8, .int .i64 i) :: K) (fun i o s => [rw_ 22 RBs s o.length o, lot (o.map bsRow)]) (fun i o s => i ≤ l.length ∧ o.map bsK = (l.map bsK).take i) (fun i o s => l.length - i) 0 [] ⟨none, 0⟩ rfl (by repeat (first | exact trivial | refine ⟨rfl, ?_⟩)) (er0 (elot0 Ent.nil)) ⟨by omega, rfl⟩ (fun i o s hi => ?_)
  obtain ⟨i1, i2⟩ := hi
  have i3 := congrArg List.length i2
  simp only [List.length_map, List.length_take] at i3
  have hb := fun h => hp.at (i := (i : Int)) ⟨by omega, h⟩
  repeat' (first
   | (refine kO ?_; first | refine gbs RBs rfl rfl rfl rfl rfl rfl (fun _ => ?_) (fun _ => ?_) | refine gv rfl rfl ?_ | refine gnil ?_ | refine gl rfl (lvb rfl rfl) rfl (fun _ => ?_) | refine gl rfl (lvB rfl rfl rfl) rfl (fun _ => ?_) | refine gl rfl (lve rfl rfl) rfl (fun _ => ?_) | refine gl rfl (lvE rfl rfl rfl) rfl (fun _ => ?_) | refine gl rfl (lva rfl rfl rfl rfl rfl) rfl (fun _ => ?_) | refine gp rfl (by (try simp only [InR]); omega) rfl ?_ | refine gix rfl rfl rfl rfl (by omega) rfl (fun _ => ?_) | refine gixa rfl rfl rfl rfl (by omega) rfl (fun _ => ?_) | (refine kK ?_; first | refine gcall rfl ?_ rfl (fun _ _ => ?_) (fun _ _ => ?_) | refine gcv rfl rfl ?_ rfl (fun _ _ => ?_) (fun _ _ => ?_) | refine gcc1 rfl rfl ?_ rfl (fun _ _ => ?_) (fun _ _ => ?_)) | refine gap rfl rfl rfl (by omega) rfl (fun _ => ?_) (fun _ => ?_) | refine gan rfl rfl rfl (by omega) rfl (fun _ => ?_) (fun _ => ?_) | refine gapz rfl rfl rfl rfl (by omega) rfl (fun _ => ?_) (fun _ => ?_) | refine ganz rfl rfl rfl rfl (by omega) rfl (fun _ => ?_) (fun _ => ?_) | refine gbs RB rfl rfl rfl rfl rfl rfl (fun _ => ?_) (fun _ => ?_) | refine gbb rfl rfl rfl (by first | (simp; done) | (simp only [and_true]; omega)) rfl rfl rfl rfl (fun _ => ?_) (fun _ => ?_) | refine gw rfl rfl ?_)
   | (refine kC ?_; first | refine gseq ?_ | refine greg ?_ | refine gret ?_ | refine gskip ?_ | (refine gcond rfl (fun h => ?_) (fun h => ?_) <;> (first | exact h.elim | (exfalso; omega) | exact absurd h (by assumption) | exact absurd (by assumption) h | skip)) | refine gblk ?_ | refine gexit ?_)
   | (refine kN ?_; first | refine gthen ?_ | refine gnblk ?_)
   | (refine kR ?_; first | refine grs ?_ | refine grb ?_ | refine grl ?_ | refine grc ?_)
   | (refine kX ?_; first | refine gxs ?_ | refine gxb ?_ | refine gxn rfl ?_ | refine gxl ?_ | refine gxc ?_)
   | (refine kR ?_; refine gr rfl (rvT rfl rv0) (⟨⟨_, _⟩, _⟩) rfl (er (elot Ent.nil)) ?_)
   | (refine kR ?_; refine gr rfl (rvT rfl rv0) (⟨⟨none, 0⟩, []⟩) rfl (er0 (elot0 Ent.nil)) ?_)
   | exact Pre.mk (by have := hb (by assumption); omega)
   | (refine Pre.mk ?_; first | exact True.intro | omega | ((repeat' (first | refine And.intro ?_ ?_ | exact True.intro | assumption | omega)); done) | (simp only [and_true, true_and, or_true, true_or]; first | done | omega))
   | (refine kD ?_; first | exact dm_none))
  · rename_i s3 _ _ s'
    have hlt : i < l.length := by omega
    refine gnl3 (i + 1) (o ++ [(s3, (ixd l (i : Int)).2)]) s' (by rw [List.length_append]; exact (by repeat (first | exact trivial | refine ⟨rfl, ?_⟩))) ?_ ⟨by omega, ?_⟩ (by omega)
    · simp only [List.length_append, List.length_singleton, List.map_append, List.map_cons, List.map_nil]
      exact er (elot1 Ent.nil)
    · rw [List.map_append, i2, take_bsK hlt]; rfl
  · show o.map bsK = l.map bsK
    rw [i2, List.take_of_length_le (by rw [List.length_map]; omega)]
instance c_cell_copied {lA : Option Addr} {lc ln : Nat} {l : List BsG} {w0 : World} {X : Nat → Prop} {L : List Assn} [hl : Rw w0 X L (.slice lA ln lc) RBs l] [q_l : BsR w0 X L l] : Ctr Tryd.prog 62 [.slice lA ln lc] w0 X L (StkN (l.map bsK)) (fun o0 : Ow BsG => .slice o0.s.A o0.gs.length o0.s.c) (fun o0 : Ow BsG => rw_ 22 RBs o0.s o0.gs.length o0.gs :: lot (o0.gs.map bsRow) :: L) (fun o0 : Ow BsG => (True) ∧ (o0.gs.map bsK = l.map bsK ∧ o0.gs.length = (l.map bsK).length)) :=
  ctr' (M' := (fun o0 : Ow BsG => [rw_ 22 RBs o0.s o0.gs.length o0.gs, lot (o0.gs.map bsRow)])) (by kernel_rfl) (fun hp w hw => by have el := hl.len hw; subst el; exact cell_copied _ _ _ w (hl.get w hw) (q_l.get w hw) hp) (by rintro hp o0 q0 ok; exact ⟨o0, rfl, rfl, ⟨trivial, ⟨q0, by simpa using congrArg List.length q0⟩⟩⟩)
theorem ref12_copied (lA : Option Addr) (lc : Nat) (l : List BsG) (w0 : World) (hl : Slr w0 RBs (.slice lA l.length lc) l) (q_l : BsP w0 l) (hp : StkN (l.map bsK)) :
    Ct Tryd.prog 56 [.slice lA l.length lc] w0 no (fun ((o0) : Ow BsG) => .slice o0.s.A o0.gs.length o0.s.c) (fun (o0) => [rw_ 22 RBs o0.s o0.gs.length o0.gs, lot (o0.gs.map bsRow)]) (fun (o0) => o0.gs.map bsK = l.map bsK) := by
  have hst := St.start w0
  have i_l := Rw.old hl
  have j_l := BsR.old q_l
  refine genter _ hst Tryd.func56 rfl rfl rfl rfl ?_
  have hn := hp.len
  repeat' (first
   | (refine kO ?_; first | refine gv rfl rfl ?_ | refine gnil ?_ | refine gl rfl (lvb rfl rfl) rfl (fun _ => ?_) | refine gl rfl (lvB rfl rfl rfl) rfl (fun _ => ?_) | refine gl rfl (lve rfl rfl) rfl (fun _ => ?_) | refine gl rfl (lvE rfl rfl rfl) rfl (fun _ => ?_) | refine gl rfl (lva rfl rfl rfl rfl rfl) rfl (fun _ => ?_) | refine gp rfl (by (try simp only [InR]); omega) rfl ?_ | refine gix rfl rfl rfl rfl (by omega) rfl (fun _ => ?_) | refine gixa rfl rfl rfl rfl (by omega) rfl (fun _ => ?_) | (refine kK ?_; first | refine gcall rfl ?_ rfl (fun _ _ => ?_) (fun _ _ => ?_) | refine gcv rfl rfl ?_ rfl (fun _ _ => ?_) (fun _ _ => ?_) | refine gcc1 rfl rfl ?_ rfl (fun _ _ => ?_) (fun _ _ => ?_)) | refine gap rfl rfl rfl (by omega) rfl (fun _ => ?_) (fun _ => ?_) | refine gan rfl rfl rfl (by omega) rfl (fun _ => ?_) (fun _ => ?_) | refine gapz rfl rfl rfl rfl (by omega) rfl (fun _ => ?_) (fun _ => ?_) | refine ganz rfl rfl rfl rfl (by omega) rfl (fun _ => ?_) (fun _ => ?_) | refine gbs RB rfl rfl rfl rfl rfl rfl (fun _ => ?_) (fun _ => ?_) | refine gbb rfl rfl rfl (by first | (simp; done) | (simp only [and_true]; omega)) rfl rfl rfl rfl (fun _ => ?_) (fun _ => ?_) | refine gw rfl rfl ?_)
   | (refine kC ?_; first | refine gseq ?_ | refine greg ?_ | refine gret ?_ | refine gskip ?_ | (refine gcond rfl (fun h => ?_) (fun h => ?_) <;> (first | exact h.elim | (exfalso; omega) | exact absurd h (by assumption) | exact absurd (by assumption) h | skip)) | refine gblk ?_ | refine gexit ?_)
   | (refine kN ?_; first | refine gthen ?_ | refine gnblk ?_)
   | (refine kR ?_; first | refine grs ?_ | refine grb ?_ | refine grl ?_ | refine grc ?_)
   | (refine kX ?_; first | refine gxs ?_ | refine gxb ?_ | refine gxn rfl ?_ | refine gxl ?_ | refine gxc ?_)
   | (refine kR ?_; refine gr rfl (rvT rfl rv0) (⟨⟨_, _⟩, _⟩) rfl (er (elot Ent.nil)) ?_)
   | (refine kR ?_; refine gr rfl (rvT rfl rv0) (⟨⟨none, 0⟩, []⟩) rfl (er0 (elot0 Ent.nil)) ?_)
   | (refine Pre.mk ?_; first | exact True.intro | omega | ((repeat' (first | refine And.intro ?_ ?_ | exact True.intro | assumption | omega)); done) | (simp only [and_true, true_and, or_true, true_or]; first | done | omega))
   | (refine kD ?_; first | exact dm_none))
  refine gloop3 [0] (fun (i : Nat) (o : List BsG) (s : Sv) K => (3, .slice s.A o.length s.c) :: (4, .int .i64 i) :: K) (fun i o s => [rw_ 22 RBs s o.length o, lot (o.map bsRow)]) (fun i o s => i ≤ l.length ∧ o.map bsK = (l.map bsK).take i) (fun i o s => l.length - i) 0 [] ⟨none, 0⟩ rfl (by repeat (first | exact trivial | refine ⟨rfl, ?_⟩)) (er0 (elot0 Ent.nil)) ⟨by omega, rfl⟩ (fun i o s hi => ?_)
  obtain ⟨i1, i2⟩ := hi
  have i3 := congrArg List.length i2
  simp only [List.length_map, List.length_take] at i3
  have hb := fun h => hp.at (i := (i : Int)) ⟨by omega, h⟩
  repeat' (first
   | (refine kO ?_; first | refine gbs RBs rfl rfl rfl rfl rfl rfl (fun _ => ?_) (fun _ => ?_) | refine gv rfl rfl ?_ | refine gnil ?_ | refine gl rfl (lvb rfl rfl) rfl (fun _ => ?_) | refine gl rfl (lvB rfl rfl rfl) rfl (fun _ => ?_) | refine gl rfl (lve rfl rfl) rfl (fun _ => ?_) | refine gl rfl (lvE rfl rfl rfl) rfl (fun _ => ?_) | refine gl rfl (lva rfl rfl rfl rfl rfl) rfl (fun _ => ?_) | refine gp rfl (by (try simp only [InR]); omega) rfl ?_ | refine gix rfl rfl rfl rfl (by omega) rfl (fun _ => ?_) | refine gixa rfl rfl rfl rfl (by omega) rfl (fun _ => ?_) | (refine kK ?_; first | refine gcall rfl ?_ rfl (fun _ _ => ?_) (fun _ _ => ?_) | refine gcv rfl rfl ?_ rfl (fun _ _ => ?_) (fun _ _ => ?_) | refine gcc1 rfl rfl ?_ rfl (fun _ _ => ?_) (fun _ _ => ?_)) | refine gap rfl rfl rfl (by omega) rfl (fun _ => ?_) (fun _ => ?_) | refine gan rfl rfl rfl (by omega) rfl (fun _ => ?_) (fun _ => ?_) | refine gapz rfl rfl rfl rfl (by omega) rfl (fun _ => ?_) (fun _ => ?_) | refine ganz rfl rfl rfl rfl (by omega) rfl (fun _ => ?_) (fun _ => ?_) | refine gbs RB rfl rfl rfl rfl rfl rfl (fun _ => ?_) (fun _ => ?_) | refine gbb rfl rfl rfl (by first | (simp; done) | (simp only [and_true]; omega)) rfl rfl rfl rfl (fun _ => ?_) (fun _ => ?_) | refine gw rfl rfl ?_)
   | (refine kC ?_; first | refine gseq ?_ | refine greg ?_ | refine gret ?_ | refine gskip ?_ | (refine gcond rfl (fun h => ?_) (fun h => ?_) <;> (first | exact h.elim | (exfalso; omega) | exact absurd h (by assumption) | exact absurd (by assumption) h | skip)) | refine gblk ?_ | refine gexit ?_)
   | (refine kN ?_; first | refine gthen ?_ | refine gnblk ?_)
   | (refine kR ?_; first | refine grs ?_ | refine grb ?_ | refine grl ?_ | refine grc ?_)
   | (refine kX ?_; first | refine gxs ?_ | refine gxb ?_ | refine gxn rfl ?_ | refine gxl ?_ | refine gxc ?_)
   | (refine kR ?_; refine gr rfl (rvT rfl rv0) (⟨⟨_, _⟩, _⟩) rfl (er (elot Ent.nil)) ?_)
   | (refine kR ?_; refine gr rfl (rvT rfl rv0) (⟨⟨none, 0⟩, []⟩) rfl (er0 (elot0 Ent.nil)) ?_)
   | exact Pre.mk (by have := hb (by assumption); omega)
   | (refine Pre.mk ?_; first | exact True.intro | omega | ((repeat' (first | refine And.intro ?_ ?_ | exact True.intro | assumption | omega)); done) | (simp only [and_true, true_and, or_true, true_or]; first | done | omega))
   | (refine kD ?_; first | exact dm_none))
  · rename_i s3 _ _ s'
    have hlt : i < l.length := by omega
    refine gnl3 (i + 1) (o ++ [(s3, (ixd l (i : Int)).2)]) s' (by rw [List.length_append]; exact (by repeat (first | exact trivial | refine ⟨rfl, ?_⟩))) ?_ ⟨by omega, ?_⟩ (by omega)
    · simp only [List.length_append, List.length_singleton, List.map_append, List.map_cons, List.map_nil]
      exact er (elot1 Ent.nil)
    · rw [List.map_append, i2, take_bsK hlt]; rfl
  · show o.map bsK = l.map bsK
    rw [i2, List.take_of_length_le (by rw [List.length_map]; omega)]
instance c_ref12_copied {lA : Option Addr} {lc ln : Nat} {l : List BsG} {w0 : World} {X : Nat → Prop} {L : List Assn} [hl : Rw w0 X L (.slice lA ln lc) RBs l] [q_l : BsR w0 X L l] : Ctr Tryd.prog 56 [.slice lA ln lc] w0 X L (StkN (l.map bsK)) (fun o0 : Ow BsG => .slice o0.s.A o0.gs.length o0.s.c) (fun o0 : Ow BsG => rw_ 22 RBs o0.s o0.gs.length o0.gs :: lot (o0.gs.map bsRow) :: L) (fun o0 : Ow BsG => (True) ∧ (o0.gs.map bsK = l.map bsK ∧ o0.gs.length = (l.map bsK).length)) :=
  ctr' (M' := (fun o0 : Ow BsG => [rw_ 22 RBs o0.s o0.gs.length o0.gs, lot (o0.gs.map bsRow)])) (by kernel_rfl) (fun hp w hw => by have el := hl.len hw; subst el; exact ref12_copied _ _ _ w (hl.get w hw) (q_l.get w hw) hp) (by rintro hp o0 q0 ok; exact ⟨o0, rfl, rfl, ⟨trivial, ⟨q0, by simpa using congrArg List.length q0⟩⟩⟩)
theorem StkN.cut {cs : List (List UInt8)} {a b : Nat} (h : StkN cs) : StkN ((cs.drop a).take b) := ⟨by have := h.1; rw [List.length_take, List.length_drop]; omega, fun c hc => h.2 c (List.mem_of_mem_drop (List.mem_of_mem_take hc))⟩
theorem cut_bsK {gs : List BsG} {a b : Nat} : (((gs.drop a).take b).map bsK) = ((gs.map bsK).drop a).take b := by rw [List.map_take, List.map_drop]
/-- a stack with a cell more -/
def pushC (cs : List (List UInt8)) (b : List UInt8) : List (List UInt8) := if cs.length ≥ 64 ∨ b.length > 3000 then [] else cs ++ [b]
def pushE (cs : List (List UInt8)) (b : List UInt8) : Int := if cs.length ≥ 64 ∨ b.length > 3000 then 3 else 0
/-- without its uppermost n -/
def popC (cs : List (List UInt8)) (n : Int) : List (List UInt8) := if n < 0 ∨ n > cs.length then [] else cs.take (cs.length - n.toNat)
def popX (cs : List (List UInt8)) (n : Int) : List (List UInt8) := if n < 0 ∨ n > cs.length then [] else cs.drop (cs.length - n.toNat)
def popE (cs : List (List UInt8)) (n : Int) : Int := if n < 0 then 2 else if n > cs.length then 6 else 0
theorem cell_Push (lA : Option Addr) (lc : Nat) (l : List BsG) (bA : Option Addr) (bc : Nat) (b : List UInt8) (w0 : World) (hl : Slr w0 RBs (.slice lA l.length lc) l) (q_l : BsP w0 l) (hb : Slr w0 RB (.slice bA b.length bc) b) (hp : StkN (l.map bsK) ∧ b.length ≤ 140737488351232) :
    Ct Tryd.prog 47 [.slice lA l.length lc, .slice bA b.length bc] w0 no (fun ((o0, e1) : Ow BsG × Int) => .tuple #[.slice o0.s.A o0.gs.length o0.s.c, .int .i64 e1]) (fun (o0, e1) => [rw_ 22 RBs o0.s o0.gs.length o0.gs, lot (o0.gs.map bsRow)]) (fun (o0, e1) => o0.gs.map bsK = pushC (l.map bsK) b ∧ e1 = pushE (l.map bsK) b) := by
  have hst := St.start w0
  have i_l := Rw.old hl
  have j_l := BsR.old q_l
  have i_b := Rw.old hb
  refine genter _ hst Tryd.func47 rfl rfl rfl rfl ?_
  have hn := hp.1.len
  have hn2 : (l.map bsK).length = l.length := List.length_map ..
  repeat' (first
   | (refine kO ?_; first | refine gbs RBs rfl rfl rfl rfl rfl rfl (fun _ => ?_) (fun _ => ?_) | refine gv rfl rfl ?_ | refine gnil ?_ | refine gp rfl (by (try simp only [InR]); omega) rfl ?_ | (refine kK ?_; first | refine gcall rfl ?_ rfl (fun _ _ => ?_) (fun _ _ => ?_) | refine gcv rfl rfl ?_ rfl (fun _ _ => ?_) (fun _ _ => ?_) | refine gcc1 rfl rfl ?_ rfl (fun _ _ => ?_) (fun _ _ => ?_)) | refine gap rfl rfl rfl (by omega) rfl (fun _ => ?_) (fun _ => ?_) | refine gan rfl rfl rfl (by omega) rfl (fun _ => ?_) (fun _ => ?_) | refine gapz rfl rfl rfl rfl (by omega) rfl (fun _ => ?_) (fun _ => ?_) | refine ganz rfl rfl rfl rfl (by omega) rfl (fun _ => ?_) (fun _ => ?_) | refine gbs RB rfl rfl rfl rfl rfl rfl (fun _ => ?_) (fun _ => ?_) | refine gbb rfl rfl rfl (by first | (simp; done) | (simp only [and_true]; omega)) rfl rfl rfl rfl (fun _ => ?_) (fun _ => ?_) | (refine kg ?_; (first | refine guardT rfl rfl rfl rfl (fun h => ?_) (fun h => ?_) | refine guardF rfl rfl rfl rfl (fun h => ?_) (fun h => ?_) | refine guardU rfl rfl rfl rfl ?_ | refine guardTH rfl rfl rfl rfl ?_ (fun h => ?_) (fun h => ?_) | refine guardFH rfl rfl rfl rfl ?_ (fun h => ?_) (fun h => ?_) | refine guardUH rfl rfl rfl rfl ?_ ?_) <;> (first | exact h.elim | (exfalso; omega) | exact absurd h (by assumption) | exact absurd (by assumption) h | skip)))
   | (refine kC ?_; first | refine gseq ?_ | refine greg ?_ | refine gret ?_ | refine gskip ?_ | (refine gcond rfl (fun h => ?_) (fun h => ?_) <;> (first | exact h.elim | (exfalso; omega) | exact absurd h (by assumption) | exact absurd (by assumption) h | skip)))
   | (refine kN ?_; first | refine gthen ?_)
   | (refine kR ?_; first | refine grs ?_ | refine grc ?_)
   | (refine kR ?_; refine gr rfl (rvT rfl (rvT rfl rv0)) (⟨⟨_, _⟩, _⟩, _) rfl (er (elot Ent.nil)) ?_)
   | (refine kR ?_; refine gr rfl (rvT rfl (rvT rfl rv0)) (⟨⟨none, 0⟩, []⟩, _) rfl (er0 (elot0 Ent.nil)) ?_)
   | exact Pre.mk hp.1
   | (refine Pre.mk ?_; first | exact True.intro | omega | ((repeat' (first | refine And.intro ?_ ?_ | exact True.intro | assumption | omega)); done) | (simp only [and_true, true_and, or_true, true_or]; first | done | omega))
   | (refine kD ?_; first | exact dm_none))
  · show [] = pushC _ _ ∧ 3 = pushE _ _
    unfold pushC pushE; rw [if_pos (by omega), if_pos (by omega)]; exact ⟨rfl, rfl⟩
  · rename_i x hx s3 _ s1 s'
    rw [show x.gs.length + 1 = (x.gs ++ [(s3, b)]).length by simp]
    refine gr rfl (rvT rfl (rvT rfl rv0)) (⟨s', x.gs ++ [(s3, b)]⟩, 0) rfl ?_ (show (x.gs ++ [(s3, b)]).map bsK = _ ∧ 0 = pushE _ _ from ⟨?_, ?_⟩)
    · simp only [List.map_append, List.map_cons, List.map_nil]; exact er (elot1 Ent.nil)
    · unfold pushC; rw [if_neg (by omega), List.map_append, hx.2.1]; rfl
    · unfold pushE; rw [if_neg (by omega)]
  · show [] = pushC _ _ ∧ 3 = pushE _ _
    unfold pushC pushE; rw [if_pos (by omega), if_pos (by omega)]; exact ⟨rfl, rfl⟩
instance c_cell_Push {lA : Option Addr} {lc ln : Nat} {l : List BsG} {bA : Option Addr} {bc bn : Nat} {b : List UInt8} {w0 : World} {X : Nat → Prop} {L : List Assn} [hl : Rw w0 X L (.slice lA ln lc) RBs l] [q_l : BsR w0 X L l] [hb : Rw w0 X L (.slice bA bn bc) RB b] : Ctr Tryd.prog 47 [.slice lA ln lc, .slice bA bn bc] w0 X L (StkN (l.map bsK) ∧ b.length ≤ 140737488351232) (fun o0 : Ow BsG => .tuple #[.slice o0.s.A o0.gs.length o0.s.c, .int .i64 (pushE (l.map bsK) b)]) (fun o0 : Ow BsG => rw_ 22 RBs o0.s o0.gs.length o0.gs :: lot (o0.gs.map bsRow) :: L) (fun o0 : Ow BsG => (True) ∧ (o0.gs.map bsK = pushC (l.map bsK) b ∧ o0.gs.length = (pushC (l.map bsK) b).length)) :=
  ctr' (M' := (fun o0 : Ow BsG => [rw_ 22 RBs o0.s o0.gs.length o0.gs, lot (o0.gs.map bsRow)])) (by kernel_rfl) (fun hp w hw => by have el := hl.len hw; subst el; have eb := hb.len hw; subst eb; exact cell_Push _ _ _ _ _ _ w (hl.get w hw) (q_l.get w hw) (hb.get w hw) hp) (by rintro hp ⟨o0, e1⟩ ⟨q0, rfl⟩ ok; exact ⟨o0, rfl, rfl, ⟨trivial, ⟨q0, by simpa using congrArg List.length q0⟩⟩⟩)
theorem cell_Pop (lA : Option Addr) (lc : Nat) (l : List BsG) (n : Int) (w0 : World) (hl : Slr w0 RBs (.slice lA l.length lc) l) (q_l : BsP w0 l) (hp : StkN (l.map bsK)) :
    Ct Tryd.prog 64 [.slice lA l.length lc, .int .i64 n] w0 no (fun ((o0, o1, e2) : Ow BsG × Ow BsG × Int) => .tuple #[.slice o0.s.A o0.gs.length o0.s.c, .slice o1.s.A o1.gs.length o1.s.c, .int .i64 e2]) (fun (o0, o1, e2) => [rw_ 22 RBs o0.s o0.gs.length o0.gs, lot (o0.gs.map bsRow), rw_ 22 RBs o1.s o1.gs.length o1.gs, lot (o1.gs.map bsRow)]) (fun (o0, o1, e2) => o0.gs.map bsK = popC (l.map bsK) n ∧ o1.gs.map bsK = popX (l.map bsK) n ∧ e2 = popE (l.map bsK) n) := by
  have hst := St.start w0
  have i_l := Rw.old hl
  have j_l := BsR.old q_l
  refine genter _ hst Tryd.func64 rfl rfl rfl rfl ?_
  have hn := hp.len
  have hn2 : (l.map bsK).length = l.length := List.length_map ..
  repeat' (first
   | (refine kO ?_; first | refine gv rfl rfl ?_ | refine gnil ?_ | refine gnilD ?_ | refine gp rfl (by (try simp only [InR]); omega) rfl ?_ | refine gc3 rfl rfl rfl rfl rfl rfl (by omega) rfl (fun _ => ?_) | refine gc2 rfl rfl rfl rfl rfl (by omega) rfl (fun _ => ?_) | refine gch rfl rfl rfl rfl (by omega) rfl (fun _ => ?_) | refine gcl rfl rfl rfl rfl (by omega) rfl (fun _ => ?_) | refine gca rfl rfl rfl rfl ?_ | refine gchm rfl rfl rfl rfl rfl (by omega) rfl (fun _ => ?_) | (refine kK ?_; first | refine gcall rfl ?_ rfl (fun _ _ => ?_) (fun _ _ => ?_) | refine gcv rfl rfl ?_ rfl (fun _ _ => ?_) (fun _ _ => ?_) | refine gcc1 rfl rfl ?_ rfl (fun _ _ => ?_) (fun _ _ => ?_)) | refine gw rfl rfl ?_)
   | (refine kC ?_; first | refine gseq ?_ | refine greg ?_ | refine gret ?_ | refine gskip ?_ | refine gdraw (id := 6) [0,1,2,3,5,6,7,4,8,9,10,11] (by kernel_rfl) (by kernel_rfl) rfl ?_ | (refine gcond rfl (fun h => ?_) (fun h => ?_) <;> (first | exact h.elim | (exfalso; omega) | exact absurd h (by assumption) | exact absurd (by assumption) h | skip)) | refine gblk ?_)
   | (refine kN ?_; first | refine gthen ?_ | refine gnblk ?_)
   | (refine kR ?_; first | refine grs ?_ | refine grb ?_ | refine grc ?_)
   | (refine kR ?_; refine gr rfl (rvT rfl (rvT rfl (rvT rfl rv0))) (⟨⟨_, _⟩, _⟩, ⟨⟨_, _⟩, _⟩, _) rfl (er (elot (er (elot Ent.nil)))) ?_)
   | (refine kR ?_; refine gr rfl (rvT rfl (rvT rfl (rvT rfl rv0))) (⟨⟨_, _⟩, _⟩, ⟨⟨none, 0⟩, []⟩, _) rfl (er (elot (er0 (elot0 Ent.nil)))) ?_)
   | (refine kR ?_; refine gr rfl (rvT rfl (rvT rfl (rvT rfl rv0))) (⟨⟨none, 0⟩, []⟩, ⟨⟨_, _⟩, _⟩, _) rfl (er0 (elot0 (er (elot Ent.nil)))) ?_)
   | (refine kR ?_; refine gr rfl (rvT rfl (rvT rfl (rvT rfl rv0))) (⟨⟨none, 0⟩, []⟩, ⟨⟨none, 0⟩, []⟩, _) rfl (er0 (elot0 (er0 (elot0 Ent.nil)))) ?_)
   | exact Pre.mk (by rw [cut_bsK]; exact hp.cut)
   | (refine Pre.mk ?_; first | exact True.intro | omega | ((repeat' (first | refine And.intro ?_ ?_ | exact True.intro | assumption | omega)); done) | (simp only [and_true, true_and, or_true, true_or]; first | done | omega))
   | (refine kD ?_; first | exact dm_none | exact dm0 | refine dmOff rfl ?_ | refine dmOn (lvb rfl rfl) ?_ | refine dmOn (lvB rfl rfl rfl) ?_ | refine dmOn (lve rfl rfl) ?_ | refine dmOn (lvE rfl rfl rfl) ?_ | refine dmOn (lva rfl rfl rfl rfl rfl) ?_))
  · show [] = popC _ _ ∧ [] = popX _ _ ∧ 2 = popE _ _
    unfold popC popX popE; rw [if_pos (by omega), if_pos (by omega), if_pos h]; exact ⟨rfl, rfl, rfl⟩
  · show [] = popC _ _ ∧ [] = popX _ _ ∧ 6 = popE _ _
    unfold popC popX popE; rw [if_pos (by omega), if_pos (by omega), if_neg (by omega), if_pos (by omega)]; exact ⟨rfl, rfl, rfl⟩
  · rename_i x hx y hy
    show x.gs.map bsK = popC _ _ ∧ y.gs.map bsK = popX _ _ ∧ 0 = popE _ _
    rw [hx.2.1, hy.2.1, cut_bsK, cut_bsK]
    unfold popC popX popE; rw [if_neg (by omega), if_neg (by omega), if_neg (by omega), if_neg (by omega)]
    refine ⟨?_, ?_, rfl⟩
    · simp only [hn2, Int.toNat_zero, List.drop_zero]; congr 1; omega
    · rw [List.take_of_length_le (by rw [List.length_drop]; omega), hn2]; congr 1; omega
instance c_cell_Pop {lA : Option Addr} {lc ln : Nat} {l : List BsG} {n : Int} {w0 : World} {X : Nat → Prop} {L : List Assn} [hl : Rw w0 X L (.slice lA ln lc) RBs l] [q_l : BsR w0 X L l] : Ctr Tryd.prog 64 [.slice lA ln lc, .int .i64 n] w0 X L (StkN (l.map bsK)) (fun (⟨o0, o1⟩ : Ow BsG × Ow BsG) => .tuple #[.slice o0.s.A o0.gs.length o0.s.c, .slice o1.s.A o1.gs.length o1.s.c, .int .i64 (popE (l.map bsK) n)]) (fun (⟨o0, o1⟩ : Ow BsG × Ow BsG) => rw_ 22 RBs o0.s o0.gs.length o0.gs :: lot (o0.gs.map bsRow) :: rw_ 22 RBs o1.s o1.gs.length o1.gs :: lot (o1.gs.map bsRow) :: L) (fun (⟨o0, o1⟩ : Ow BsG × Ow BsG) => (True) ∧ (o0.gs.map bsK = popC (l.map bsK) n ∧ o0.gs.length = (popC (l.map bsK) n).length) ∧ (o1.gs.map bsK = popX (l.map bsK) n ∧ o1.gs.length = (popX (l.map bsK) n).length)) :=
  ctr' (M' := (fun (⟨o0, o1⟩ : Ow BsG × Ow BsG) => [rw_ 22 RBs o0.s o0.gs.length o0.gs, lot (o0.gs.map bsRow), rw_ 22 RBs o1.s o1.gs.length o1.gs, lot (o1.gs.map bsRow)])) (by kernel_rfl) (fun hp w hw => by have el := hl.len hw; subst el; exact cell_Pop _ _ _ _ w (hl.get w hw) (q_l.get w hw) hp) (by rintro hp ⟨o0, o1, e2⟩ ⟨q0, q1, rfl⟩ ok; exact ⟨(o0, o1), rfl, rfl, ⟨trivial, ⟨q0, by simpa using congrArg List.length q0⟩, ⟨q1, by simpa using congrArg List.length q1⟩⟩⟩)
theorem ref12_Push (lA : Option Addr) (lc : Nat) (l : List BsG) (bA : Option Addr) (bc : Nat) (b : List UInt8) (w0 : World) (hl : Slr w0 RBs (.slice lA l.length lc) l) (q_l : BsP w0 l) (hb : Slr w0 RB (.slice bA b.length bc) b) (hp : StkN (l.map bsK) ∧ b.length ≤ 140737488351232) :
    Ct Tryd.prog 79 [.slice lA l.length lc, .slice bA b.length bc] w0 no (fun ((o0, e1) : Ow BsG × Int) => .tuple #[.slice o0.s.A o0.gs.length o0.s.c, .int .i64 e1]) (fun (o0, e1) => [rw_ 22 RBs o0.s o0.gs.length o0.gs, lot (o0.gs.map bsRow)]) (fun (o0, e1) => o0.gs.map bsK = pushC (l.map bsK) b ∧ e1 = pushE (l.map bsK) b) := by
  have hst := St.start w0
  have i_l := Rw.old hl
  have j_l := BsR.old q_l
  have i_b := Rw.old hb
  refine genter _ hst Tryd.func79 rfl rfl rfl rfl ?_
  have hn := hp.1.len
  have hn2 : (l.map bsK).length = l.length := List.length_map ..
  repeat' (first
   | (refine kO ?_; first | refine gbs RBs rfl rfl rfl rfl rfl rfl (fun _ => ?_) (fun _ => ?_) | refine gv rfl rfl ?_ | refine gnil ?_ | refine gp rfl (by (try simp only [InR]); omega) rfl ?_ | (refine kK ?_; first | refine gcall rfl ?_ rfl (fun _ _ => ?_) (fun _ _ => ?_) | refine gcv rfl rfl ?_ rfl (fun _ _ => ?_) (fun _ _ => ?_) | refine gcc1 rfl rfl ?_ rfl (fun _ _ => ?_) (fun _ _ => ?_)) | refine gap rfl rfl rfl (by omega) rfl (fun _ => ?_) (fun _ => ?_) | refine gan rfl rfl rfl (by omega) rfl (fun _ => ?_) (fun _ => ?_) | refine gapz rfl rfl rfl rfl (by omega) rfl (fun _ => ?_) (fun _ => ?_) | refine ganz rfl rfl rfl rfl (by omega) rfl (fun _ => ?_) (fun _ => ?_) | refine gbs RB rfl rfl rfl rfl rfl rfl (fun _ => ?_) (fun _ => ?_) | refine gbb rfl rfl rfl (by first | (simp; done) | (simp only [and_true]; omega)) rfl rfl rfl rfl (fun _ => ?_) (fun _ => ?_) | (refine kg ?_; (first | refine guardT rfl rfl rfl rfl (fun h => ?_) (fun h => ?_) | refine guardF rfl rfl rfl rfl (fun h => ?_) (fun h => ?_) | refine guardU rfl rfl rfl rfl ?_ | refine guardTH rfl rfl rfl rfl ?_ (fun h => ?_) (fun h => ?_) | refine guardFH rfl rfl rfl rfl ?_ (fun h => ?_) (fun h => ?_) | refine guardUH rfl rfl rfl rfl ?_ ?_) <;> (first | exact h.elim | (exfalso; omega) | exact absurd h (by assumption) | exact absurd (by assumption) h | skip)))
   | (refine kC ?_; first | refine gseq ?_ | refine greg ?_ | refine gret ?_ | refine gskip ?_ | (refine gcond rfl (fun h => ?_) (fun h => ?_) <;> (first | exact h.elim | (exfalso; omega) | exact absurd h (by assumption) | exact absurd (by assumption) h | skip)))
   | (refine kN ?_; first | refine gthen ?_)
   | (refine kR ?_; first | refine grs ?_ | refine grc ?_)
   | (refine kR ?_; refine gr rfl (rvT rfl (rvT rfl rv0)) (⟨⟨_, _⟩, _⟩, _) rfl (er (elot Ent.nil)) ?_)
   | (refine kR ?_; refine gr rfl (rvT rfl (rvT rfl rv0)) (⟨⟨none, 0⟩, []⟩, _) rfl (er0 (elot0 Ent.nil)) ?_)
   | exact Pre.mk hp.1
   | (refine Pre.mk ?_; first | exact True.intro | omega | ((repeat' (first | refine And.intro ?_ ?_ | exact True.intro | assumption | omega)); done) | (simp only [and_true, true_and, or_true, true_or]; first | done | omega))
   | (refine kD ?_; first | exact dm_none))
  · show [] = pushC _ _ ∧ 3 = pushE _ _
    unfold pushC pushE; rw [if_pos (by omega), if_pos (by omega)]; exact ⟨rfl, rfl⟩
  · rename_i x hx s3 _ s1 s'
    rw [show x.gs.length + 1 = (x.gs ++ [(s3, b)]).length by simp]
    refine gr rfl (rvT rfl (rvT rfl rv0)) (⟨s', x.gs ++ [(s3, b)]⟩, 0) rfl ?_ (show (x.gs ++ [(s3, b)]).map bsK = _ ∧ 0 = pushE _ _ from ⟨?_, ?_⟩)
    · simp only [List.map_append, List.map_cons, List.map_nil]; exact er (elot1 Ent.nil)
    · unfold pushC; rw [if_neg (by omega), List.map_append, hx.2.1]; rfl
    · unfold pushE; rw [if_neg (by omega)]
  · show [] = pushC _ _ ∧ 3 = pushE _ _
    unfold pushC pushE; rw [if_pos (by omega), if_pos (by omega)]; exact ⟨rfl, rfl⟩
instance c_ref12_Push {lA : Option Addr} {lc ln : Nat} {l : List BsG} {bA : Option Addr} {bc bn : Nat} {b : List UInt8} {w0 : World} {X : Nat → Prop} {L : List Assn} [hl : Rw w0 X L (.slice lA ln lc) RBs l] [q_l : BsR w0 X L l] [hb : Rw w0 X L (.slice bA bn bc) RB b] : Ctr Tryd.prog 79 [.slice lA ln lc, .slice bA bn bc] w0 X L (StkN (l.map bsK) ∧ b.length ≤ 140737488351232) (fun o0 : Ow BsG => .tuple #[.slice o0.s.A o0.gs.length o0.s.c, .int .i64 (pushE (l.map bsK) b)]) (fun o0 : Ow BsG => rw_ 22 RBs o0.s o0.gs.length o0.gs :: lot (o0.gs.map bsRow) :: L) (fun o0 : Ow BsG => (True) ∧ (o0.gs.map bsK = pushC (l.map bsK) b ∧ o0.gs.length = (pushC (l.map bsK) b).length)) :=
  ctr' (M' := (fun o0 : Ow BsG => [rw_ 22 RBs o0.s o0.gs.length o0.gs, lot (o0.gs.map bsRow)])) (by kernel_rfl) (fun hp w hw => by have el := hl.len hw; subst el; have eb := hb.len hw; subst eb; exact ref12_Push _ _ _ _ _ _ w (hl.get w hw) (q_l.get w hw) (hb.get w hw) hp) (by rintro hp ⟨o0, e1⟩ ⟨q0, rfl⟩ ok; exact ⟨o0, rfl, rfl, ⟨trivial, ⟨q0, by simpa using congrArg List.length q0⟩⟩⟩)
theorem ref12_Pop (lA : Option Addr) (lc : Nat) (l : List BsG) (n : Int) (w0 : World) (hl : Slr w0 RBs (.slice lA l.length lc) l) (q_l : BsP w0 l) (hp : StkN (l.map bsK)) :
    Ct Tryd.prog 35 [.slice lA l.length lc, .int .i64 n] w0 no (fun ((o0, o1, e2) : Ow BsG × Ow BsG × Int) => .tuple #[.slice o0.s.A o0.gs.length o0.s.c, .slice o1.s.A o1.gs.length o1.s.c, .int .i64 e2]) (fun (o0, o1, e2) => [rw_ 22 RBs o0.s o0.gs.length o0.gs, lot (o0.gs.map bsRow), rw_ 22 RBs o1.s o1.gs.length o1.gs, lot (o1.gs.map bsRow)]) (fun (o0, o1, e2) => o0.gs.map bsK = popC (l.map bsK) n ∧ o1.gs.map bsK = popX (l.map bsK) n ∧ e2 = popE (l.map bsK) n) := by
  have hst := St.start w0
  have i_l := Rw.old hl
  have j_l := BsR.old q_l
  refine genter _ hst Tryd.func35 rfl rfl rfl rfl ?_
  have hn := hp.len
  have hn2 : (l.map bsK).length = l.length := List.length_map ..
  repeat' (first
   | (refine kO ?_; first | refine gv rfl rfl ?_ | refine gnil ?_ | refine gnilD ?_ | refine gp rfl (by (try simp only [InR]); omega) rfl ?_ | refine gc3 rfl rfl rfl rfl rfl rfl (by omega) rfl (fun _ => ?_) | refine gc2 rfl rfl rfl rfl rfl (by omega) rfl (fun _ => ?_) | refine gch rfl rfl rfl rfl (by omega) rfl (fun _ => ?_) | refine gcl rfl rfl rfl rfl (by omega) rfl (fun _ => ?_) | refine gca rfl rfl rfl rfl ?_ | refine gchm rfl rfl rfl rfl rfl (by omega) rfl (fun _ => ?_) | (refine kK ?_; first | refine gcall rfl ?_ rfl (fun _ _ => ?_) (fun _ _ => ?_) | refine gcv rfl rfl ?_ rfl (fun _ _ => ?_) (fun _ _ => ?_) | refine gcc1 rfl rfl ?_ rfl (fun _ _ => ?_) (fun _ _ => ?_)) | refine gw rfl rfl ?_)
   | (refine kC ?_; first | refine gseq ?_ | refine greg ?_ | refine gret ?_ | refine gskip ?_ | refine gdraw (id := 5) [0,1,2,3,4,5,7,8,9,10,11,12,6,13,14,15,16] (by kernel_rfl) (by kernel_rfl) rfl ?_ | (refine gcond rfl (fun h => ?_) (fun h => ?_) <;> (first | exact h.elim | (exfalso; omega) | exact absurd h (by assumption) | exact absurd (by assumption) h | skip)))
   | (refine kN ?_; first | refine gthen ?_)
   | (refine kR ?_; first | refine grs ?_ | refine grc ?_)
   | (refine kR ?_; refine gr rfl (rvT rfl (rvT rfl (rvT rfl rv0))) (⟨⟨_, _⟩, _⟩, ⟨⟨_, _⟩, _⟩, _) rfl (er (elot (er (elot Ent.nil)))) ?_)
   | (refine kR ?_; refine gr rfl (rvT rfl (rvT rfl (rvT rfl rv0))) (⟨⟨_, _⟩, _⟩, ⟨⟨none, 0⟩, []⟩, _) rfl (er (elot (er0 (elot0 Ent.nil)))) ?_)
   | (refine kR ?_; refine gr rfl (rvT rfl (rvT rfl (rvT rfl rv0))) (⟨⟨none, 0⟩, []⟩, ⟨⟨_, _⟩, _⟩, _) rfl (er0 (elot0 (er (elot Ent.nil)))) ?_)
   | (refine kR ?_; refine gr rfl (rvT rfl (rvT rfl (rvT rfl rv0))) (⟨⟨none, 0⟩, []⟩, ⟨⟨none, 0⟩, []⟩, _) rfl (er0 (elot0 (er0 (elot0 Ent.nil)))) ?_)
   | exact Pre.mk (by rw [cut_bsK]; exact hp.cut)
   | (refine Pre.mk ?_; first | exact True.intro | omega | ((repeat' (first | refine And.intro ?_ ?_ | exact True.intro | assumption | omega)); done) | (simp only [and_true, true_and, or_true, true_or]; first | done | omega))
   | (refine kD ?_; first | exact dm_none | exact dm0 | refine dmOff rfl ?_ | refine dmOn (lvb rfl rfl) ?_ | refine dmOn (lvB rfl rfl rfl) ?_ | refine dmOn (lve rfl rfl) ?_ | refine dmOn (lvE rfl rfl rfl) ?_ | refine dmOn (lva rfl rfl rfl rfl rfl) ?_))
  · show [] = popC _ _ ∧ [] = popX _ _ ∧ 2 = popE _ _
    unfold popC popX popE; rw [if_pos (by omega), if_pos (by omega), if_pos h]; exact ⟨rfl, rfl, rfl⟩
  · show [] = popC _ _ ∧ [] = popX _ _ ∧ 6 = popE _ _
    unfold popC popX popE; rw [if_pos (by omega), if_pos (by omega), if_neg (by omega), if_pos (by omega)]; exact ⟨rfl, rfl, rfl⟩
  · rename_i x hx y hy
    show x.gs.map bsK = popC _ _ ∧ y.gs.map bsK = popX _ _ ∧ 0 = popE _ _
    rw [hx.2.1, hy.2.1, cut_bsK, cut_bsK]
    unfold popC popX popE; rw [if_neg (by omega), if_neg (by omega), if_neg (by omega), if_neg (by omega)]
    refine ⟨?_, ?_, rfl⟩
    · simp only [hn2, Int.toNat_zero, List.drop_zero]; congr 1; omega
    · rw [List.take_of_length_le (by rw [List.length_drop]; omega), hn2]; congr 1; omega
instance c_ref12_Pop {lA : Option Addr} {lc ln : Nat} {l : List BsG} {n : Int} {w0 : World} {X : Nat → Prop} {L : List Assn} [hl : Rw w0 X L (.slice lA ln lc) RBs l] [q_l : BsR w0 X L l] : Ctr Tryd.prog 35 [.slice lA ln lc, .int .i64 n] w0 X L (StkN (l.map bsK)) (fun (⟨o0, o1⟩ : Ow BsG × Ow BsG) => .tuple #[.slice o0.s.A o0.gs.length o0.s.c, .slice o1.s.A o1.gs.length o1.s.c, .int .i64 (popE (l.map bsK) n)]) (fun (⟨o0, o1⟩ : Ow BsG × Ow BsG) => rw_ 22 RBs o0.s o0.gs.length o0.gs :: lot (o0.gs.map bsRow) :: rw_ 22 RBs o1.s o1.gs.length o1.gs :: lot (o1.gs.map bsRow) :: L) (fun (⟨o0, o1⟩ : Ow BsG × Ow BsG) => (True) ∧ (o0.gs.map bsK = popC (l.map bsK) n ∧ o0.gs.length = (popC (l.map bsK) n).length) ∧ (o1.gs.map bsK = popX (l.map bsK) n ∧ o1.gs.length = (popX (l.map bsK) n).length)) :=
  ctr' (M' := (fun (⟨o0, o1⟩ : Ow BsG × Ow BsG) => [rw_ 22 RBs o0.s o0.gs.length o0.gs, lot (o0.gs.map bsRow), rw_ 22 RBs o1.s o1.gs.length o1.gs, lot (o1.gs.map bsRow)])) (by kernel_rfl) (fun hp w hw => by have el := hl.len hw; subst el; exact ref12_Pop _ _ _ _ w (hl.get w hw) (q_l.get w hw) hp) (by rintro hp ⟨o0, o1, e2⟩ ⟨q0, q1, rfl⟩ ok; exact ⟨(o0, o1), rfl, rfl, ⟨trivial, ⟨q0, by simpa using congrArg List.length q0⟩, ⟨q1, by simpa using congrArg List.length q1⟩⟩⟩)
/-- is a cell true? -/
def trueB (b : List UInt8) : Bool := b.any (· != 0)
theorem trueB_drop {b : List UInt8} {i : Nat} (h : i < b.length) (h0 : (ixd b (i : Int)) = 0) (e : trueB b = trueB (b.drop i)) : trueB b = trueB (b.drop (i + 1)) := by
  rw [e]
  unfold trueB
  rw [List.drop_eq_getElem_cons h, List.any_cons]
  rw [ixd_eq (by omega)] at h0
  simp only [Int.toNat_natCast] at h0
  simp [h0]
theorem trueB_at {b : List UInt8} {i : Nat} (h : i < b.length) (h0 : (ixd b (i : Int)) ≠ 0) : trueB b = true := by
  unfold trueB
  rw [List.any_eq_true]
  rw [ixd_eq (by omega)] at h0
  exact ⟨_, List.getElem_mem _, by simpa using h0⟩
theorem u8z {x : UInt8} : (x.toNat : Int) = 0 ↔ x = 0 := by
  constructor
  · intro h; exact UInt8.toNat_inj.1 (by simpa using h)
  · rintro rfl; rfl
theorem cell_True (bA : Option Addr) (bc : Nat) (b : List UInt8) (w0 : World) (hb : Slr w0 RB (.slice bA b.length bc) b)  :
    Ct Tryd.prog 24 [.slice bA b.length bc] w0 no (fun ((e0) : Bool) => .bool e0) (fun (e0) => []) (fun (e0) => e0 = trueB b) := by
  have hst := St.start w0
  have i_b := Rw.old hb
  refine genter _ hst Tryd.func24 rfl rfl rfl rfl ?_
  have hcap := hb.cap
  repeat' (first
   | (refine kO ?_; first | refine gv rfl rfl ?_ | refine gnil ?_ | refine gl rfl (lvb rfl rfl) rfl (fun _ => ?_) | refine gl rfl (lvB rfl rfl rfl) rfl (fun _ => ?_) | refine gl rfl (lve rfl rfl) rfl (fun _ => ?_) | refine gl rfl (lvE rfl rfl rfl) rfl (fun _ => ?_) | refine gl rfl (lva rfl rfl rfl rfl rfl) rfl (fun _ => ?_) | refine gp rfl (by (try simp only [InR]); omega) rfl ?_ | refine gix rfl rfl rfl rfl (by omega) rfl (fun _ => ?_) | refine gixa rfl rfl rfl rfl (by omega) rfl (fun _ => ?_) | (refine kK ?_; first | refine gcall rfl ?_ rfl (fun _ _ => ?_) (fun _ _ => ?_) | refine gcv rfl rfl ?_ rfl (fun _ _ => ?_) (fun _ _ => ?_) | refine gcc1 rfl rfl ?_ rfl (fun _ _ => ?_) (fun _ _ => ?_)) | refine gneq rfl rfl (by kernel_rfl) ?_ rfl ?_ | refine gw rfl rfl ?_)
   | (refine kC ?_; first | refine gseq ?_ | refine greg ?_ | refine gret ?_ | refine gskip ?_ | (refine gcond rfl (fun h => ?_) (fun h => ?_) <;> (first | exact h.elim | (exfalso; omega) | exact absurd h (by assumption) | exact absurd (by assumption) h | skip)) | refine gblk ?_ | refine gexit ?_)
   | (refine kN ?_; first | refine gthen ?_ | refine gnblk ?_)
   | (refine kR ?_; first | refine grs ?_ | refine grb ?_ | refine grl ?_ | refine grc ?_)
   | (refine kX ?_; first | refine gxs ?_ | refine gxb ?_ | refine gxn rfl ?_ | refine gxl ?_ | refine gxc ?_)
   | (refine kR ?_; refine gr rfl (rvT rfl rv0) (_) rfl Ent.nil ?_)
   | (refine Pre.mk ?_; first | exact True.intro | omega | ((repeat' (first | refine And.intro ?_ ?_ | exact True.intro | assumption | omega)); done) | (simp only [and_true, true_and, or_true, true_or]; first | done | omega))
   | (refine kD ?_; first | exact dm_none))
  refine gloopc [5, 6] (fun (i : Nat) K => (7, .int .i64 i) :: K) (fun i => i ≤ b.length ∧ trueB b = trueB (b.drop i)) (fun i => b.length - i) 0 rfl (by repeat (first | exact trivial | refine ⟨rfl, ?_⟩)) (by simp) (fun i hi => ?_)
  repeat' (first
   | (refine kO ?_; first | refine gv rfl rfl ?_ | refine gnil ?_ | refine gl rfl (lvb rfl rfl) rfl (fun _ => ?_) | refine gl rfl (lvB rfl rfl rfl) rfl (fun _ => ?_) | refine gl rfl (lve rfl rfl) rfl (fun _ => ?_) | refine gl rfl (lvE rfl rfl rfl) rfl (fun _ => ?_) | refine gl rfl (lva rfl rfl rfl rfl rfl) rfl (fun _ => ?_) | refine gp rfl (by (try simp only [InR]); omega) rfl ?_ | refine gix rfl rfl rfl rfl (by omega) rfl (fun _ => ?_) | refine gixa rfl rfl rfl rfl (by omega) rfl (fun _ => ?_) | (refine kK ?_; first | refine gcall rfl ?_ rfl (fun _ _ => ?_) (fun _ _ => ?_) | refine gcv rfl rfl ?_ rfl (fun _ _ => ?_) (fun _ _ => ?_) | refine gcc1 rfl rfl ?_ rfl (fun _ _ => ?_) (fun _ _ => ?_)) | refine gneq rfl rfl (by kernel_rfl) ?_ rfl ?_ | refine gw rfl rfl ?_)
   | (refine kC ?_; first | refine gseq ?_ | refine greg ?_ | refine gret ?_ | refine gskip ?_ | (refine gcond rfl (fun h => ?_) (fun h => ?_) <;> (first | exact h.elim | (exfalso; omega) | exact absurd h (by assumption) | exact absurd (by assumption) h | skip)) | refine gblk ?_ | refine gexit ?_)
   | (refine kN ?_; first | refine gthen ?_ | refine gnblk ?_)
   | (refine kR ?_; first | refine grs ?_ | refine grb ?_ | refine grl ?_ | refine grc ?_)
   | (refine kX ?_; first | refine gxs ?_ | refine gxb ?_ | refine gxn rfl ?_ | refine gxl ?_ | refine gxc ?_)
   | (refine kR ?_; refine gr rfl (rvT rfl rv0) (_) rfl Ent.nil ?_)
   | (refine Pre.mk ?_; first | exact True.intro | omega | ((repeat' (first | refine And.intro ?_ ?_ | exact True.intro | assumption | omega)); done) | (simp only [and_true, true_and, or_true, true_or]; first | done | omega))
   | (refine kD ?_; first | exact dm_none))
  · exact (trueB_at (i := i) (by omega) (fun e => h (u8z.2 e))).symm
  · exact gnl (i + 1) (by repeat (first | exact trivial | refine ⟨rfl, ?_⟩)) (Ent.refl _) ⟨by omega, trueB_drop (by omega) (u8z.1 h) hi.2⟩ (by omega)
  · rw [hi.2, List.drop_eq_nil_of_le (by omega)]; rfl
instance c_cell_True {bA : Option Addr} {bc bn : Nat} {b : List UInt8} {w0 : World} {X : Nat → Prop} {L : List Assn} [hb : Rw w0 X L (.slice bA bn bc) RB b] : Ctr Tryd.prog 24 [.slice bA bn bc] w0 X L (True) (fun _ : Unit => .bool (trueB b)) (fun _ : Unit => L) (fun _ : Unit => True) :=
  ctr' (M' := (fun _ : Unit => [])) (by kernel_rfl) (fun hp w hw => by have eb := hb.len hw; subst eb; exact cell_True _ _ _ w (hb.get w hw)) (by rintro hp e0 rfl ok; exact ⟨(), rfl, rfl, trivial⟩)
theorem ref12_True (bA : Option Addr) (bc : Nat) (b : List UInt8) (w0 : World) (hb : Slr w0 RB (.slice bA b.length bc) b)  :
    Ct Tryd.prog 27 [.slice bA b.length bc] w0 no (fun ((e0) : Bool) => .bool e0) (fun (e0) => []) (fun (e0) => e0 = trueB b) := by
  have hst := St.start w0
  have i_b := Rw.old hb
  refine genter _ hst Tryd.func27 rfl rfl rfl rfl ?_
  have hcap := hb.cap
  repeat' (first
   | (refine kO ?_; first | refine gv rfl rfl ?_ | refine gnil ?_ | refine gl rfl (lvb rfl rfl) rfl (fun _ => ?_) | refine gl rfl (lvB rfl rfl rfl) rfl (fun _ => ?_) | refine gl rfl (lve rfl rfl) rfl (fun _ => ?_) | refine gl rfl (lvE rfl rfl rfl) rfl (fun _ => ?_) | refine gl rfl (lva rfl rfl rfl rfl rfl) rfl (fun _ => ?_) | refine gp rfl (by (try simp only [InR]); omega) rfl ?_ | refine gix rfl rfl rfl rfl (by omega) rfl (fun _ => ?_) | refine gixa rfl rfl rfl rfl (by omega) rfl (fun _ => ?_) | (refine kK ?_; first | refine gcall rfl ?_ rfl (fun _ _ => ?_) (fun _ _ => ?_) | refine gcv rfl rfl ?_ rfl (fun _ _ => ?_) (fun _ _ => ?_) | refine gcc1 rfl rfl ?_ rfl (fun _ _ => ?_) (fun _ _ => ?_)) | refine gneq rfl rfl (by kernel_rfl) ?_ rfl ?_ | refine gw rfl rfl ?_)
   | (refine kC ?_; first | refine gseq ?_ | refine greg ?_ | refine gret ?_ | refine gskip ?_ | (refine gcond rfl (fun h => ?_) (fun h => ?_) <;> (first | exact h.elim | (exfalso; omega) | exact absurd h (by assumption) | exact absurd (by assumption) h | skip)) | refine gblk ?_ | refine gexit ?_)
   | (refine kN ?_; first | refine gthen ?_ | refine gnblk ?_)
   | (refine kR ?_; first | refine grs ?_ | refine grb ?_ | refine grl ?_ | refine grc ?_)
   | (refine kX ?_; first | refine gxs ?_ | refine gxb ?_ | refine gxn rfl ?_ | refine gxl ?_ | refine gxc ?_)
   | (refine kR ?_; refine gr rfl (rvT rfl rv0) (_) rfl Ent.nil ?_)
   | (refine Pre.mk ?_; first | exact True.intro | omega | ((repeat' (first | refine And.intro ?_ ?_ | exact True.intro | assumption | omega)); done) | (simp only [and_true, true_and, or_true, true_or]; first | done | omega))
   | (refine kD ?_; first | exact dm_none))
  refine gloopc [0] (fun (i : Nat) K => (3, .int .i64 i) :: K) (fun i => i ≤ b.length ∧ trueB b = trueB (b.drop i)) (fun i => b.length - i) 0 rfl (by repeat (first | exact trivial | refine ⟨rfl, ?_⟩)) (by simp) (fun i hi => ?_)
  repeat' (first
   | (refine kO ?_; first | refine gv rfl rfl ?_ | refine gnil ?_ | refine gl rfl (lvb rfl rfl) rfl (fun _ => ?_) | refine gl rfl (lvB rfl rfl rfl) rfl (fun _ => ?_) | refine gl rfl (lve rfl rfl) rfl (fun _ => ?_) | refine gl rfl (lvE rfl rfl rfl) rfl (fun _ => ?_) | refine gl rfl (lva rfl rfl rfl rfl rfl) rfl (fun _ => ?_) | refine gp rfl (by (try simp only [InR]); omega) rfl ?_ | refine gix rfl rfl rfl rfl (by omega) rfl (fun _ => ?_) | refine gixa rfl rfl rfl rfl (by omega) rfl (fun _ => ?_) | (refine kK ?_; first | refine gcall rfl ?_ rfl (fun _ _ => ?_) (fun _ _ => ?_) | refine gcv rfl rfl ?_ rfl (fun _ _ => ?_) (fun _ _ => ?_) | refine gcc1 rfl rfl ?_ rfl (fun _ _ => ?_) (fun _ _ => ?_)) | refine gneq rfl rfl (by kernel_rfl) ?_ rfl ?_ | refine gw rfl rfl ?_)
   | (refine kC ?_; first | refine gseq ?_ | refine greg ?_ | refine gret ?_ | refine gskip ?_ | (refine gcond rfl (fun h => ?_) (fun h => ?_) <;> (first | exact h.elim | (exfalso; omega) | exact absurd h (by assumption) | exact absurd (by assumption) h | skip)) | refine gblk ?_ | refine gexit ?_)
   | (refine kN ?_; first | refine gthen ?_ | refine gnblk ?_)
   | (refine kR ?_; first | refine grs ?_ | refine grb ?_ | refine grl ?_ | refine grc ?_)
   | (refine kX ?_; first | refine gxs ?_ | refine gxb ?_ | refine gxn rfl ?_ | refine gxl ?_ | refine gxc ?_)
   | (refine kR ?_; refine gr rfl (rvT rfl rv0) (_) rfl Ent.nil ?_)
   | (refine Pre.mk ?_; first | exact True.intro | omega | ((repeat' (first | refine And.intro ?_ ?_ | exact True.intro | assumption | omega)); done) | (simp only [and_true, true_and, or_true, true_or]; first | done | omega))
   | (refine kD ?_; first | exact dm_none))
  · exact (trueB_at (i := i) (by omega) (fun e => h (u8z.2 e))).symm
  · exact gnl (i + 1) (by repeat (first | exact trivial | refine ⟨rfl, ?_⟩)) (Ent.refl _) ⟨by omega, trueB_drop (by omega) (u8z.1 h) hi.2⟩ (by omega)
  · rw [hi.2, List.drop_eq_nil_of_le (by omega)]; rfl
instance c_ref12_True {bA : Option Addr} {bc bn : Nat} {b : List UInt8} {w0 : World} {X : Nat → Prop} {L : List Assn} [hb : Rw w0 X L (.slice bA bn bc) RB b] : Ctr Tryd.prog 27 [.slice bA bn bc] w0 X L (True) (fun _ : Unit => .bool (trueB b)) (fun _ : Unit => L) (fun _ : Unit => True) :=
  ctr' (M' := (fun _ : Unit => [])) (by kernel_rfl) (fun hp w hw => by have eb := hb.len hw; subst eb; exact ref12_True _ _ _ w (hb.get w hw)) (by rintro hp e0 rfl ok; exact ⟨(), rfl, rfl, trivial⟩)
theorem ixd_bsK {gs : List BsG} {i : Nat} (h : i < gs.length) : (ixd gs (i : Int)).2 = (gs.map bsK)[i]'(by simpa using h) := by
  rw [ixd_eq (by omega)]; simp
theorem ref12_Same (aA : Option Addr) (ac : Nat) (a : List BsG) (bA : Option Addr) (bc : Nat) (b : List BsG) (w0 : World) (ha : Slr w0 RBs (.slice aA a.length ac) a) (q_a : BsP w0 a) (hb : Slr w0 RBs (.slice bA b.length bc) b) (q_b : BsP w0 b)  :
    Ct Tryd.prog 16 [.slice aA a.length ac, .slice bA b.length bc] w0 no (fun ((e0) : Bool) => .bool e0) (fun (e0) => []) (fun (e0) => e0 = decide (a.map bsK = b.map bsK)) := by
  have hst := St.start w0
  have i_a := Rw.old ha
  have j_a := BsR.old q_a
  have i_b := Rw.old hb
  have j_b := BsR.old q_b
  refine genter _ hst Tryd.func16 rfl rfl rfl rfl ?_
  have hcap := ha.cap
  repeat' (first
   | (refine kO ?_; first | refine gv rfl rfl ?_ | refine gnil ?_ | refine gnilD ?_ | refine gl rfl (lvb rfl rfl) rfl (fun _ => ?_) | refine gl rfl (lvB rfl rfl rfl) rfl (fun _ => ?_) | refine gl rfl (lve rfl rfl) rfl (fun _ => ?_) | refine gl rfl (lvE rfl rfl rfl) rfl (fun _ => ?_) | refine gl rfl (lva rfl rfl rfl rfl rfl) rfl (fun _ => ?_) | refine gp rfl (by (try simp only [InR]); omega) rfl ?_ | refine gix rfl rfl rfl rfl (by omega) rfl (fun _ => ?_) | refine gixa rfl rfl rfl rfl (by omega) rfl (fun _ => ?_) | (refine kK ?_; first | refine gcall rfl ?_ rfl (fun _ _ => ?_) (fun _ _ => ?_) | refine gcv rfl rfl ?_ rfl (fun _ _ => ?_) (fun _ _ => ?_) | refine gcc1 rfl rfl ?_ rfl (fun _ _ => ?_) (fun _ _ => ?_)) | refine gneq rfl rfl (by kernel_rfl) ?_ rfl ?_ | refine gw rfl rfl ?_)
   | (refine kC ?_; first | refine gseq ?_ | refine greg ?_ | refine gret ?_ | refine gskip ?_ | refine gdraw (id := 6) [0,1,2,3,4,5,6,7,8,9] (by kernel_rfl) (by kernel_rfl) rfl ?_ | (refine gcond rfl (fun h => ?_) (fun h => ?_) <;> (first | exact h.elim | (exfalso; omega) | exact absurd h (by assumption) | exact absurd (by assumption) h | skip)) | refine gblk ?_ | refine gexit ?_)
   | (refine kN ?_; first | refine gthen ?_ | refine gnblk ?_)
   | (refine kR ?_; first | refine grs ?_ | refine grb ?_ | refine grl ?_ | refine grc ?_)
   | (refine kX ?_; first | refine gxs ?_ | refine gxb ?_ | refine gxn rfl ?_ | refine gxl ?_ | refine gxc ?_)
   | (refine kR ?_; refine gr rfl (rvT rfl rv0) (_) rfl Ent.nil ?_)
   | (refine Pre.mk ?_; first | exact True.intro | omega | ((repeat' (first | refine And.intro ?_ ?_ | exact True.intro | assumption | omega)); done) | (simp only [and_true, true_and, or_true, true_or]; first | done | omega))
   | (refine kD ?_; first | exact dm_none | exact dm0 | refine dmOff rfl ?_ | refine dmOn (lvb rfl rfl) ?_ | refine dmOn (lvB rfl rfl rfl) ?_ | refine dmOn (lve rfl rfl) ?_ | refine dmOn (lvE rfl rfl rfl) ?_ | refine dmOn (lva rfl rfl rfl rfl rfl) ?_))
  · exact (decide_eq_false fun e => by have := congrArg List.length e; simp at this; omega).symm
  · refine gloopc [0, 1] (fun (i : Nat) K => (5, .int .i64 i) :: K) (fun i => i ≤ a.length ∧ ∀ j : Nat, j < i → (ixd a (j : Int)).2 = (ixd b (j : Int)).2) (fun i => a.length - i) 0 rfl (by repeat (first | exact trivial | refine ⟨rfl, ?_⟩)) (by simp) (fun i hi => ?_)
    repeat' (first
     | (refine kO ?_; first | refine gv rfl rfl ?_ | refine gnil ?_ | refine gnilD ?_ | refine gl rfl (lvb rfl rfl) rfl (fun _ => ?_) | refine gl rfl (lvB rfl rfl rfl) rfl (fun _ => ?_) | refine gl rfl (lve rfl rfl) rfl (fun _ => ?_) | refine gl rfl (lvE rfl rfl rfl) rfl (fun _ => ?_) | refine gl rfl (lva rfl rfl rfl rfl rfl) rfl (fun _ => ?_) | refine gp rfl (by (try simp only [InR]); omega) rfl ?_ | refine gix rfl rfl rfl rfl (by omega) rfl (fun _ => ?_) | refine gixa rfl rfl rfl rfl (by omega) rfl (fun _ => ?_) | (refine kK ?_; first | refine gcall rfl ?_ rfl (fun _ _ => ?_) (fun _ _ => ?_) | refine gcv rfl rfl ?_ rfl (fun _ _ => ?_) (fun _ _ => ?_) | refine gcc1 rfl rfl ?_ rfl (fun _ _ => ?_) (fun _ _ => ?_)) | refine gneq rfl rfl (by kernel_rfl) ?_ rfl ?_ | refine gw rfl rfl ?_)
     | (refine kC ?_; first | refine gseq ?_ | refine greg ?_ | refine gret ?_ | refine gskip ?_ | refine gdraw (id := 6) [0,1,2,3,4,5,6,7,8,9] (by kernel_rfl) (by kernel_rfl) rfl ?_ | (refine gcond rfl (fun h => ?_) (fun h => ?_) <;> (first | exact h.elim | (exfalso; omega) | exact absurd h (by assumption) | exact absurd (by assumption) h | skip)) | refine gblk ?_ | refine gexit ?_)
     | (refine kN ?_; first | refine gthen ?_ | refine gnblk ?_)
     | (refine kR ?_; first | refine grs ?_ | refine grb ?_ | refine grl ?_ | refine grc ?_)
     | (refine kX ?_; first | refine gxs ?_ | refine gxb ?_ | refine gxn rfl ?_ | refine gxl ?_ | refine gxc ?_)
     | (refine kR ?_; refine gr rfl (rvT rfl rv0) (_) rfl Ent.nil ?_)
     | (refine Pre.mk ?_; first | exact True.intro | omega | ((repeat' (first | refine And.intro ?_ ?_ | exact True.intro | assumption | omega)); done) | (simp only [and_true, true_and, or_true, true_or]; first | done | omega))
     | (refine kD ?_; first | exact dm_none | exact dm0 | refine dmOff rfl ?_ | refine dmOn (lvb rfl rfl) ?_ | refine dmOn (lvB rfl rfl rfl) ?_ | refine dmOn (lve rfl rfl) ?_ | refine dmOn (lvE rfl rfl rfl) ?_ | refine dmOn (lva rfl rfl rfl rfl rfl) ?_))
    · exact (decide_eq_false fun e => h (by
        rw [ixd_bsK (gs := a) (i := i) (by omega), ixd_bsK (gs := b) (i := i) (by omega)]; simp only [e])).symm
    · refine gnl (i + 1) (by repeat (first | exact trivial | refine ⟨rfl, ?_⟩)) (Ent.refl _) ⟨by omega, fun j hj => ?_⟩ (by omega)
      by_cases e : j = i
      · subst e; exact h
      · exact hi.2 j (by omega)
    · refine (decide_eq_true (List.ext_getElem (by simp; omega) fun j h1 h2 => ?_)).symm
      simp only [List.length_map] at h1 h2
      rw [← ixd_bsK h1, ← ixd_bsK h2]; exact hi.2 j (by omega)
instance c_ref12_Same {aA : Option Addr} {ac an : Nat} {a : List BsG} {bA : Option Addr} {bc bn : Nat} {b : List BsG} {w0 : World} {X : Nat → Prop} {L : List Assn} [ha : Rw w0 X L (.slice aA an ac) RBs a] [q_a : BsR w0 X L a] [hb : Rw w0 X L (.slice bA bn bc) RBs b] [q_b : BsR w0 X L b] : Ctr Tryd.prog 16 [.slice aA an ac, .slice bA bn bc] w0 X L (True) (fun _ : Unit => .bool (decide (a.map bsK = b.map bsK))) (fun _ : Unit => L) (fun _ : Unit => True) :=
  ctr' (M' := (fun _ : Unit => [])) (by kernel_rfl) (fun hp w hw => by have ea := ha.len hw; subst ea; have eb := hb.len hw; subst eb; exact ref12_Same _ _ _ _ _ _ w (ha.get w hw) (q_a.get w hw) (hb.get w hw) (q_b.get w hw)) (by rintro hp e0 rfl ok; exact ⟨(), rfl, rfl, trivial⟩)
end Go.Proofs.YtkjpemkankefnaaDoor
