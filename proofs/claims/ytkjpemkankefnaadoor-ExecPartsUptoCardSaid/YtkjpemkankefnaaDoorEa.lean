/-
  Rows of rows of bytes of the call's own; steps. No program in sight but its types.
-/
import Derived.Test.YtkjpemkankefnaaDoorVlib
import Derived.Test.YtkjpemkankefnaaDoorVtypes
import Derived.Test.YtkjpemkankefnaaDoorNi
set_option linter.all false
set_option maxRecDepth 100000
namespace Go.Proofs.YtkjpemkankefnaaDoor
open Go.RowKit

instance : Inhabited BsG := ⟨(⟨none, 0⟩, [])⟩
/-- a row of the call's own, whose elements are, too -/
structure Ow (G : Type) where
  s : Sv
  gs : List G
/-- what becomes of an element: its own row -/
@[reducible] def bsRow (x : BsG) : Assn := rw_ 5 RB x.1 x.2.length x.2
theorem lot_sub {L l : List Assn} {w0 w : World} {X : Nat → Prop} (h : FLot L l) (hw : St w0 X L w) {G : Type} {e : TypeId} {R : Rep G} {s : Sv} {n : Nat} {gs : List G} (hm : rw_ e R s n gs ∈ l) : Slr w R (sl s n) gs := Slr.of_lot h hm hw
instance BsR.lot {w0 : World} {X : Nat → Prop} {L : List Assn} {gs : List BsG} [h : FLot L (gs.map bsRow)] : BsR w0 X L gs := ⟨fun w hw x hx => Slr.of_lot (e := 5) (s := x.1) (n := x.2.length) (gs := x.2) h (List.mem_map.2 ⟨x, hx, rfl⟩) hw⟩
instance BsR.cutT {w0 : World} {X : Nat → Prop} {L : List Assn} {gs : List BsG} {k l : Nat} [h : BsR w0 X L gs] : BsR w0 X L ((gs.drop l).take k) := ⟨fun w hw x hx => h.get w hw x (List.mem_of_mem_drop (List.mem_of_mem_take hx))⟩
instance (priority := low) Rw.bs {w0 : World} {X : Nat → Prop} {L : List Assn} {gs : List BsG} {i : Int} [h : BsR w0 X L gs] [hi : Ix i gs.length] : Rw w0 X L (.slice (ixd gs i).1.A (ixd gs i).2.length (ixd gs i).1.c) RB (ixd gs i).2 := ⟨fun w hw => (h.get w hw _ (ixd_mem hi rfl))⟩
instance : EL Tryd.prog 22 1 24 := ⟨by
  obtain ⟨i, h1, h2, h3, h4⟩ := info_parts (show (Tryd.prog.info? 22).map (fun i => (i.zero, i.size, i.bytes)) = some (some (.slice none 0 0), 1, 24) by kernel_rfl)
  exact ⟨i, _, h1, h2, h3, h4, rfl, by decide⟩⟩
instance : ZE Tryd.prog 22 RBs (⟨none, 0⟩, []) := ⟨by kernel_rfl, by kernel_rfl⟩
@[reducible] def bsK (x : BsG) : List UInt8 := x.2
theorem bytes_Clone (lA : Option Addr) (lc : Nat) (l : List UInt8) (w0 : World) (hl : Slr w0 RB (.slice lA l.length lc) l) (hp : l.length ≤ 140737488351232) :
    Ct Tryd.prog 63 [.slice lA l.length lc] w0 no (fun ((⟨s0, n0, x0⟩) : Br UInt8) => .slice s0.A n0 s0.c) (fun (⟨s0, n0, x0⟩) => [rw_ 5 RB s0 n0 x0]) (fun (⟨s0, n0, x0⟩) => x0 = (l)) := by
  have hst := St.start w0
  have i_l := Rw.old hl
  refine genter _ hst Tryd.func63 rfl rfl rfl rfl ?_
  repeat' (first
   | (refine kO ?_; first | refine gbe RB rfl rfl (fun _ _ => ?_) (fun _ _ => ?_) | refine gv rfl rfl ?_ | refine gnil ?_ | refine gp rfl (by (try simp only [InR]); omega) rfl ?_ | (refine kK ?_; first | refine gcall rfl ?_ rfl (fun _ _ => ?_) (fun _ _ => ?_) | refine gcv rfl rfl ?_ rfl (fun _ _ => ?_) (fun _ _ => ?_) | refine gcc1 rfl rfl ?_ rfl (fun _ _ => ?_) (fun _ _ => ?_)) | refine geql rfl rfl (by kernel_rfl) ?_ rfl ?_ | refine gap rfl rfl rfl (by omega) rfl (fun _ => ?_) (fun _ => ?_) | refine gan rfl rfl rfl (by omega) rfl (fun _ => ?_) (fun _ => ?_) | refine gapz rfl rfl rfl rfl (by omega) rfl (fun _ => ?_) (fun _ => ?_) | refine ganz rfl rfl rfl rfl (by omega) rfl (fun _ => ?_) (fun _ => ?_) | refine gbs RB rfl rfl rfl rfl rfl rfl (fun _ => ?_) (fun _ => ?_) | refine gbb rfl rfl rfl (by first | (simp; done) | (simp only [and_true]; omega)) rfl rfl rfl rfl (fun _ => ?_) (fun _ => ?_))
   | (refine kC ?_; first | refine gseq ?_ | refine greg ?_ | refine gret ?_ | refine gskip ?_ | (refine gcond rfl (fun h => ?_) (fun h => ?_) <;> (first | exact h.elim | (exfalso; omega) | exact absurd h (by assumption) | exact absurd (by assumption) h | skip)))
   | (refine kN ?_; first | refine gthen ?_)
   | (refine kR ?_; first | refine grs ?_ | refine grc ?_)
   | (refine kR ?_; refine gr rfl (rvT rfl rv0) (⟨_, _, _⟩) rfl (er Ent.nil) ?_)
   | (refine kR ?_; refine gr rfl (rvT rfl rv0) (⟨⟨none, 0⟩, 0, []⟩) rfl (er0 Ent.nil) ?_)
   | (refine Pre.mk ?_; first | exact True.intro | omega | ((repeat' (first | refine And.intro ?_ ?_ | exact True.intro | assumption | omega)); done) | (simp only [and_true, true_and, or_true, true_or]; first | done | omega))
   | (refine kD ?_; first | exact dm_none))
  · exact (hl.isNone h).symm
  · simp
instance c_bytes_Clone {lA : Option Addr} {lc ln : Nat} {l : List UInt8} {w0 : World} {X : Nat → Prop} {L : List Assn} [hl : Rw w0 X L (.slice lA ln lc) RB l] : Ctr Tryd.prog 63 [.slice lA ln lc] w0 X L (l.length ≤ 140737488351232) (fun s0 : Sv => .slice s0.A (l).length s0.c) (fun s0 : Sv => rw_ 5 RB s0 (l).length (l) :: L) (fun s0 : Sv => True) :=
  ctr' (M' := (fun s0 : Sv => [rw_ 5 RB s0 (l).length (l)])) (by kernel_rfl) (fun hp w hw => by have el := hl.len hw; subst el; exact bytes_Clone _ _ _ w (hl.get w hw) hp) (by rintro hp ⟨s0, n0, x0⟩ rfl ok; cases ok.row; exact ⟨s0, rfl, rfl, trivial⟩)
theorem ref00_Copy (lA : Option Addr) (lc : Nat) (l : List UInt8) (w0 : World) (hl : Slr w0 RB (.slice lA l.length lc) l) (hp : l.length ≤ 140737488351232) :
    Ct Tryd.prog 61 [.slice lA l.length lc] w0 no (fun ((⟨s0, n0, x0⟩) : Br UInt8) => .slice s0.A n0 s0.c) (fun (⟨s0, n0, x0⟩) => [rw_ 5 RB s0 n0 x0]) (fun (⟨s0, n0, x0⟩) => x0 = (l)) := by
  have hst := St.start w0
  have i_l := Rw.old hl
  refine genter _ hst Tryd.func61 rfl rfl rfl rfl ?_
  repeat' (first
   | (refine kO ?_; first | refine gv rfl rfl ?_ | refine gnil ?_ | (refine kK ?_; first | refine gcall rfl ?_ rfl (fun _ _ => ?_) (fun _ _ => ?_) | refine gcv rfl rfl ?_ rfl (fun _ _ => ?_) (fun _ _ => ?_) | refine gcc1 rfl rfl ?_ rfl (fun _ _ => ?_) (fun _ _ => ?_)) | refine gap rfl rfl rfl (by omega) rfl (fun _ => ?_) (fun _ => ?_) | refine gan rfl rfl rfl (by omega) rfl (fun _ => ?_) (fun _ => ?_) | refine gapz rfl rfl rfl rfl (by omega) rfl (fun _ => ?_) (fun _ => ?_) | refine ganz rfl rfl rfl rfl (by omega) rfl (fun _ => ?_) (fun _ => ?_))
   | (refine kC ?_; first | refine gseq ?_ | refine greg ?_ | refine gret ?_ | refine gskip ?_)
   | (refine kN ?_; first | refine gthen ?_)
   | (refine kR ?_; first | refine grs ?_ | refine grc ?_)
   | (refine kR ?_; refine gr rfl (rvT rfl rv0) (⟨_, _, _⟩) rfl (er Ent.nil) ?_)
   | (refine kR ?_; refine gr rfl (rvT rfl rv0) (⟨⟨none, 0⟩, 0, []⟩) rfl (er0 Ent.nil) ?_)
   | (refine Pre.mk ?_; first | exact True.intro | omega | ((repeat' (first | refine And.intro ?_ ?_ | exact True.intro | assumption | omega)); done) | (simp only [and_true, true_and, or_true, true_or]; first | done | omega))
   | (refine kD ?_; first | exact dm_none))
  all_goals rfl
instance c_ref00_Copy {lA : Option Addr} {lc ln : Nat} {l : List UInt8} {w0 : World} {X : Nat → Prop} {L : List Assn} [hl : Rw w0 X L (.slice lA ln lc) RB l] : Ctr Tryd.prog 61 [.slice lA ln lc] w0 X L (l.length ≤ 140737488351232) (fun s0 : Sv => .slice s0.A (l).length s0.c) (fun s0 : Sv => rw_ 5 RB s0 (l).length (l) :: L) (fun s0 : Sv => True) :=
  ctr' (M' := (fun s0 : Sv => [rw_ 5 RB s0 (l).length (l)])) (by kernel_rfl) (fun hp w hw => by have el := hl.len hw; subst el; exact ref00_Copy _ _ _ w (hl.get w hw) hp) (by rintro hp ⟨s0, n0, x0⟩ rfl ok; cases ok.row; exact ⟨s0, rfl, rfl, trivial⟩)
end Go.Proofs.YtkjpemkankefnaaDoor
