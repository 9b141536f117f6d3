/-
  Steps; scripts put.
-/
import Derived.Test.YtkjpemkankefnaaDoorEd
set_option linter.all false
set_option maxRecDepth 100000
set_option maxHeartbeats 4000000
namespace Go.Proofs.YtkjpemkankefnaaDoor
open Go.RowKit

structure StG where
  op : Int
  push : List UInt8
  s : Sv
instance : Inhabited StG := ⟨⟨0, [], ⟨none, 0⟩⟩⟩
def RSt : Rep StG := ⟨2, fun g => [.one (.int .u8 g.op), .one (.slice g.s.A g.push.length g.s.c)], by decide, fun _ => ⟨trivial, rfl, rfl⟩⟩
instance : SzIs RSt 2 := ⟨rfl⟩
instance : ZS Tryd.prog 45 [.one (.int .u8 0), .one (.slice none 0 0)] := ⟨by kernel_rfl, OkS.one.h.1⟩
instance {o : Int} {s : Sv} {l : List UInt8} : Elm RSt (.agg (flat [.one (.int .u8 o), .one (.slice s.A l.length s.c)]).toArray) ⟨o, l, s⟩ := ⟨by simp [Value.cells, RSt]⟩
instance {o : Int} : Elm RSt (.agg (flat [.one (.int .u8 o), .one (.slice none 0 0)]).toArray) ⟨o, [], ⟨none, 0⟩⟩ := ⟨by simp [Value.cells, RSt]⟩
instance : EL Tryd.prog 45 2 32 := ⟨by
  obtain ⟨i, h1, h2, h3, h4⟩ := info_parts (show (Tryd.prog.info? 45).map (fun i => (i.zero, i.size, i.bytes)) = some (some (.agg (flat (RSt.sg default)).toArray), 2, 32) by kernel_rfl)
  exact ⟨i, _, h1, h2, h3, h4, rfl, by decide⟩⟩
instance : ZE Tryd.prog 45 RSt default := ⟨by kernel_rfl, by kernel_rfl⟩
def StP (w : World) (gs : List StG) : Prop := ∀ g ∈ gs, Sb w (.slice g.s.A g.push.length g.s.c) g.push
class StR (w0 : World) (X : Nat → Prop) (L : List Assn) (gs : List StG) : Prop where
  get : ∀ w, St w0 X L w → StP w gs
@[reducible] def StN (gs : List StG) : Prop := ∀ g ∈ gs, 0 ≤ g.op ∧ g.op ≤ 255
@[reducible] def stRow (g : StG) : Assn := rw_ 5 RB g.s g.push.length g.push
abbrev Stp := Int × List UInt8
@[reducible] def stK (g : StG) : Stp := (g.op, g.push)
theorem StR.old {w0 : World} {gs : List StG} (h : StP w0 gs) (L : List Assn) : StR w0 no L gs := ⟨fun w hst o ho => hst.sl (h o ho)⟩
section
variable {w0 : World} {X : Nat → Prop} {L : List Assn}
instance StR.lot {gs : List StG} [h : FLot L (gs.map stRow)] : StR w0 X L gs := ⟨fun w hw g hg => Slr.of_lot h (List.mem_map.2 ⟨g, hg, rfl⟩) hw⟩
instance StR.cutT {gs : List StG} {k l : Nat} [h : StR w0 X L gs] : StR w0 X L ((gs.drop l).take k) := ⟨fun w hw x hx => h.get w hw x (List.mem_of_mem_drop (List.mem_of_mem_take hx))⟩
instance StR.nil : StR w0 X L [] := ⟨fun _ _ _ h => by cases h⟩
instance StR.cons {o : Int} {l : List UInt8} {s : Sv} {gs : List StG} [h : Rw w0 X L (.slice s.A l.length s.c) RB l] [h' : StR w0 X L gs] : StR w0 X L (⟨o, l, s⟩ :: gs) := ⟨fun w hw x hx => by
  rcases List.mem_cons.1 hx with rfl | hx
  · exact h.get w hw
  · exact h'.get w hw x hx⟩
instance Rw.st {gs : List StG} {i : Int} [h : StR w0 X L gs] [hi : Ix i gs.length] : Rw w0 X L (.slice (ixd gs i).s.A (ixd gs i).push.length (ixd gs i).s.c) RB (ixd gs i).push := ⟨fun w hw => h.get w hw _ (ixd_mem hi rfl)⟩
end
theorem StN.at {gs : List StG} (h : StN gs) {i : Int} (hi : 0 ≤ i ∧ i < gs.length) : 0 ≤ (ixd gs i).op ∧ (ixd gs i).op ≤ 255 := by
  rw [ixd_eq (by omega)]; exact h _ (List.getElem_mem _)
/-! scripts, plain -/
@[reducible] def mayS (o : Int) (p : List UInt8) : Prop := if o = 1 then p.length ≤ 3000 else 2 ≤ o ∧ o ≤ 20 ∧ p.length = 0
def stepB (x : Stp) : List UInt8 := if x.1 ≠ 1 then [u8 (127 + x.1)] else if x.2.length < 128 then u8 x.2.length :: x.2 else 128 :: u8 x.2.length :: u8 ((x.2.length : Int) / 256) :: x.2
def MayL (l : List Stp) : Prop := ∀ x ∈ l, mayS x.1 x.2
instance {l : List Stp} : Decidable (MayL l) := inferInstanceAs (Decidable (∀ x ∈ l, mayS x.1 x.2))
def putSE (l : List Stp) : Int := if ¬ MayL l then 2 else if l.length > 200 then 3 else 0
def putSL (l : List Stp) : List UInt8 := if putSE l = 0 then l.flatMap stepB else []
theorem stepB_len {x : Stp} (h : mayS x.1 x.2) : (stepB x).length ≤ 3003 := by
  unfold mayS at h
  unfold stepB
  split
  · simp
  · rename_i h1
    simp only [ne_eq, Decidable.not_not] at h1
    rw [if_pos h1] at h
    split <;> simp <;> omega
theorem code_may (o : Int) (uA : Option Addr) (uc : Nat) (u : List UInt8) (w0 : World) (hu : Slr w0 RB (.slice uA u.length uc) u)  :
    Ct Tryd.prog 46 [Ag [.one (.int .u8 o), .one (.slice uA u.length uc)]] w0 no (fun ((e0) : Bool) => .bool e0) (fun (e0) => []) (fun (e0) => e0 = decide (mayS o u)) := by
  have hst := St.start w0
  have i_u := Rw.old hu
  refine genter _ hst Tryd.func46 rfl rfl rfl rfl ?_
  repeat' (first
   | (refine kO ?_; first | refine gv rfl rfl ?_ | refine gnil ?_ | refine gl rfl (lvb rfl rfl) rfl (fun _ => ?_) | refine gl rfl (lvB rfl rfl rfl) rfl (fun _ => ?_) | refine gl rfl (lve rfl rfl) rfl (fun _ => ?_) | refine gl rfl (lvE rfl rfl rfl) rfl (fun _ => ?_) | refine gl rfl (lva rfl rfl rfl rfl rfl) rfl (fun _ => ?_) | refine gp rfl (by (try simp only [InR]); omega) rfl ?_ | refine gf rfl rfl rfl ?_ | (refine kK ?_; first | refine gcall rfl ?_ rfl (fun _ _ => ?_) (fun _ _ => ?_) | refine gcv rfl rfl ?_ rfl (fun _ _ => ?_) (fun _ _ => ?_) | refine gcc1 rfl rfl ?_ rfl (fun _ _ => ?_) (fun _ _ => ?_)) | refine geql rfl rfl (by kernel_rfl) ?_ rfl ?_ | refine gx rfl rfl (fun _ => ?_) (fun _ => ?_) | (refine kg ?_; (first | refine guardT rfl rfl rfl rfl (fun h => ?_) (fun h => ?_) | refine guardF rfl rfl rfl rfl (fun h => ?_) (fun h => ?_) | refine guardU rfl rfl rfl rfl ?_ | refine guardTH rfl rfl rfl rfl ?_ (fun h => ?_) (fun h => ?_) | refine guardFH rfl rfl rfl rfl ?_ (fun h => ?_) (fun h => ?_) | refine guardUH rfl rfl rfl rfl ?_ ?_) <;> (first | exact h.elim | (exfalso; omega) | exact absurd h (by assumption) | exact absurd (by assumption) h | skip)))
   | (refine kC ?_; first | refine gseq ?_ | refine greg ?_ | refine gret ?_ | refine gskip ?_ | (refine gcond rfl (fun h => ?_) (fun h => ?_) <;> (first | exact h.elim | (exfalso; omega) | exact absurd h (by assumption) | exact absurd (by assumption) h | skip)))
   | (refine kN ?_; first | refine gthen ?_)
   | (refine kR ?_; first | refine grs ?_ | refine grc ?_)
   | (refine kR ?_; refine gr rfl (rvT rfl rv0) (_) rfl Ent.nil ?_)
   | (refine Pre.mk ?_; first | exact True.intro | omega | ((repeat' (first | refine And.intro ?_ ?_ | exact True.intro | assumption | omega)); done) | (simp only [and_true, true_and, or_true, true_or]; first | done | omega))
   | (refine kD ?_; first | exact dm_none))
  all_goals grind
instance c_code_may {o : Int} {uA : Option Addr} {uc un : Nat} {u : List UInt8} {w0 : World} {X : Nat → Prop} {L : List Assn} [hu : Rw w0 X L (.slice uA un uc) RB u] : Ctr Tryd.prog 46 [Ag [.one (.int .u8 o), .one (.slice uA un uc)]] w0 X L (True) (fun _ : Unit => .bool (decide (mayS o u))) (fun _ : Unit => L) (fun _ : Unit => True) :=
  ctr' (M' := (fun _ : Unit => [])) (by kernel_rfl) (fun hp w hw => by have eu := hu.len hw; subst eu; exact code_may _ _ _ _ w (hu.get w hw)) (by rintro hp e0 rfl ok; exact ⟨(), rfl, rfl, trivial⟩)
theorem ref11_may (o : Int) (uA : Option Addr) (uc : Nat) (u : List UInt8) (w0 : World) (hu : Slr w0 RB (.slice uA u.length uc) u)  :
    Ct Tryd.prog 28 [Ag [.one (.int .u8 o), .one (.slice uA u.length uc)]] w0 no (fun ((e0) : Bool) => .bool e0) (fun (e0) => []) (fun (e0) => e0 = decide (mayS o u)) := by
  have hst := St.start w0
  have i_u := Rw.old hu
  refine genter _ hst Tryd.func28 rfl rfl rfl rfl ?_
  repeat' (first
   | (refine kO ?_; first | refine gv rfl rfl ?_ | refine gnil ?_ | refine gl rfl (lvb rfl rfl) rfl (fun _ => ?_) | refine gl rfl (lvB rfl rfl rfl) rfl (fun _ => ?_) | refine gl rfl (lve rfl rfl) rfl (fun _ => ?_) | refine gl rfl (lvE rfl rfl rfl) rfl (fun _ => ?_) | refine gl rfl (lva rfl rfl rfl rfl rfl) rfl (fun _ => ?_) | refine gp rfl (by (try simp only [InR]); omega) rfl ?_ | refine gf rfl rfl rfl ?_ | (refine kK ?_; first | refine gcall rfl ?_ rfl (fun _ _ => ?_) (fun _ _ => ?_) | refine gcv rfl rfl ?_ rfl (fun _ _ => ?_) (fun _ _ => ?_) | refine gcc1 rfl rfl ?_ rfl (fun _ _ => ?_) (fun _ _ => ?_)) | refine geql rfl rfl (by kernel_rfl) ?_ rfl ?_ | refine gx rfl rfl (fun _ => ?_) (fun _ => ?_) | (refine kg ?_; (first | refine guardT rfl rfl rfl rfl (fun h => ?_) (fun h => ?_) | refine guardF rfl rfl rfl rfl (fun h => ?_) (fun h => ?_) | refine guardU rfl rfl rfl rfl ?_ | refine guardTH rfl rfl rfl rfl ?_ (fun h => ?_) (fun h => ?_) | refine guardFH rfl rfl rfl rfl ?_ (fun h => ?_) (fun h => ?_) | refine guardUH rfl rfl rfl rfl ?_ ?_) <;> (first | exact h.elim | (exfalso; omega) | exact absurd h (by assumption) | exact absurd (by assumption) h | skip)))
   | (refine kC ?_; first | refine gseq ?_ | refine greg ?_ | refine gret ?_ | refine gskip ?_ | (refine gcond rfl (fun h => ?_) (fun h => ?_) <;> (first | exact h.elim | (exfalso; omega) | exact absurd h (by assumption) | exact absurd (by assumption) h | skip)))
   | (refine kN ?_; first | refine gthen ?_)
   | (refine kR ?_; first | refine grs ?_ | refine grc ?_)
   | (refine kR ?_; refine gr rfl (rvT rfl rv0) (_) rfl Ent.nil ?_)
   | (refine Pre.mk ?_; first | exact True.intro | omega | ((repeat' (first | refine And.intro ?_ ?_ | exact True.intro | assumption | omega)); done) | (simp only [and_true, true_and, or_true, true_or]; first | done | omega))
   | (refine kD ?_; first | exact dm_none))
  all_goals grind
instance c_ref11_may {o : Int} {uA : Option Addr} {uc un : Nat} {u : List UInt8} {w0 : World} {X : Nat → Prop} {L : List Assn} [hu : Rw w0 X L (.slice uA un uc) RB u] : Ctr Tryd.prog 28 [Ag [.one (.int .u8 o), .one (.slice uA un uc)]] w0 X L (True) (fun _ : Unit => .bool (decide (mayS o u))) (fun _ : Unit => L) (fun _ : Unit => True) :=
  ctr' (M' := (fun _ : Unit => [])) (by kernel_rfl) (fun hp w hw => by have eu := hu.len hw; subst eu; exact ref11_may _ _ _ _ w (hu.get w hw)) (by rintro hp e0 rfl ok; exact ⟨(), rfl, rfl, trivial⟩)
theorem code_Put1 (o : Int) (uA : Option Addr) (uc : Nat) (u : List UInt8) (w0 : World) (hu : Slr w0 RB (.slice uA u.length uc) u)  :
    Ct Tryd.prog 45 [Ag [.one (.int .u8 o), .one (.slice uA u.length uc)]] w0 no (fun ((e0) : Bool) => .bool e0) (fun (e0) => []) (fun (e0) => e0 = decide (¬ mayS o u)) := by
  have hst := St.start w0
  have i_u := Rw.old hu
  refine genter _ hst Tryd.func45 rfl rfl rfl rfl ?_
  repeat' (first
   | (refine kO ?_; first | refine gv rfl rfl ?_ | refine gnil ?_ | refine gl rfl (lvb rfl rfl) rfl (fun _ => ?_) | refine gl rfl (lvB rfl rfl rfl) rfl (fun _ => ?_) | refine gl rfl (lve rfl rfl) rfl (fun _ => ?_) | refine gl rfl (lvE rfl rfl rfl) rfl (fun _ => ?_) | refine gl rfl (lva rfl rfl rfl rfl rfl) rfl (fun _ => ?_) | (refine kK ?_; first | refine gcall rfl ?_ rfl (fun _ _ => ?_) (fun _ _ => ?_) | refine gcv rfl rfl ?_ rfl (fun _ _ => ?_) (fun _ _ => ?_) | refine gcc1 rfl rfl ?_ rfl (fun _ _ => ?_) (fun _ _ => ?_)) | refine gx rfl rfl (fun _ => ?_) (fun _ => ?_))
   | (refine kC ?_; first | refine gseq ?_ | refine greg ?_ | refine gret ?_ | refine gskip ?_)
   | (refine kN ?_; first | refine gthen ?_)
   | (refine kR ?_; first | refine grs ?_ | refine grc ?_)
   | (refine kR ?_; refine gr rfl (rvT rfl rv0) (_) rfl Ent.nil ?_)
   | (refine Pre.mk ?_; first | exact True.intro | omega | ((repeat' (first | refine And.intro ?_ ?_ | exact True.intro | assumption | omega)); done) | (simp only [and_true, true_and, or_true, true_or]; first | done | omega))
   | (refine kD ?_; first | exact dm_none))
  all_goals grind
instance c_code_Put1 {o : Int} {uA : Option Addr} {uc un : Nat} {u : List UInt8} {w0 : World} {X : Nat → Prop} {L : List Assn} [hu : Rw w0 X L (.slice uA un uc) RB u] : Ctr Tryd.prog 45 [Ag [.one (.int .u8 o), .one (.slice uA un uc)]] w0 X L (True) (fun _ : Unit => .bool (decide (¬ mayS o u))) (fun _ : Unit => L) (fun _ : Unit => True) :=
  ctr' (M' := (fun _ : Unit => [])) (by kernel_rfl) (fun hp w hw => by have eu := hu.len hw; subst eu; exact code_Put1 _ _ _ _ w (hu.get w hw)) (by rintro hp e0 rfl ok; exact ⟨(), rfl, rfl, trivial⟩)
theorem code_Pushes1 (o : Int) (uA : Option Addr) (uc : Nat) (u : List UInt8) (w0 : World) (hu : Slr w0 RB (.slice uA u.length uc) u) (hp : 0 ≤ o ∧ o ≤ 255) :
    Ct Tryd.prog 43 [Ag [.one (.int .u8 o), .one (.slice uA u.length uc)]] w0 no (fun ((e0) : Bool) => .bool e0) (fun (e0) => []) (fun (e0) => e0 = decide (o ≠ 1)) := by
  have hst := St.start w0
  have i_u := Rw.old hu
  refine genter _ hst Tryd.func43 rfl rfl rfl rfl ?_
  repeat' (first
   | (refine kO ?_; first | refine gv rfl rfl ?_ | refine gnil ?_ | refine gl rfl (lvb rfl rfl) rfl (fun _ => ?_) | refine gl rfl (lvB rfl rfl rfl) rfl (fun _ => ?_) | refine gl rfl (lve rfl rfl) rfl (fun _ => ?_) | refine gl rfl (lvE rfl rfl rfl) rfl (fun _ => ?_) | refine gl rfl (lva rfl rfl rfl rfl rfl) rfl (fun _ => ?_) | refine gp rfl (by (try simp only [InR]); omega) rfl ?_ | refine gf rfl rfl rfl ?_ | refine gneq rfl rfl (by kernel_rfl) ?_ rfl ?_ | refine gx rfl rfl (fun _ => ?_) (fun _ => ?_))
   | (refine kC ?_; first | refine gseq ?_ | refine greg ?_ | refine gret ?_ | refine gskip ?_)
   | (refine kN ?_; first | refine gthen ?_)
   | (refine kR ?_; first | refine grs ?_ | refine grc ?_)
   | (refine kR ?_; refine gr rfl (rvT rfl rv0) (_) rfl Ent.nil ?_)
   | (refine Pre.mk ?_; first | exact True.intro | omega | ((repeat' (first | refine And.intro ?_ ?_ | exact True.intro | assumption | omega)); done) | (simp only [and_true, true_and, or_true, true_or]; first | done | omega))
   | (refine kD ?_; first | exact dm_none))
  all_goals grind
instance c_code_Pushes1 {o : Int} {uA : Option Addr} {uc un : Nat} {u : List UInt8} {w0 : World} {X : Nat → Prop} {L : List Assn} [hu : Rw w0 X L (.slice uA un uc) RB u] : Ctr Tryd.prog 43 [Ag [.one (.int .u8 o), .one (.slice uA un uc)]] w0 X L (0 ≤ o ∧ o ≤ 255) (fun _ : Unit => .bool (decide (o ≠ 1))) (fun _ : Unit => L) (fun _ : Unit => True) :=
  ctr' (M' := (fun _ : Unit => [])) (by kernel_rfl) (fun hp w hw => by have eu := hu.len hw; subst eu; exact code_Pushes1 _ _ _ _ w (hu.get w hw) hp) (by rintro hp e0 rfl ok; exact ⟨(), rfl, rfl, trivial⟩)
def idxS (q : StG → Bool) : List StG → Int → Int
  | [], _ => -1
  | p :: r, k => if q p = true then k else idxS q r (k + 1)
theorem idxS_iff {q : StG → Bool} : ∀ {l : List StG} {k : Int}, 0 ≤ k → (0 ≤ idxS q l k ↔ ∃ p ∈ l, q p = true)
  | [], k, h => by simp [idxS]
  | p :: r, k, h => by
    unfold idxS
    split
    · rename_i h1; exact ⟨fun _ => ⟨p, by simp, h1⟩, fun _ => h⟩
    · rename_i h1
      rw [idxS_iff (by omega)]; simp [h1]
@[reducible] def qMay (g : StG) : Bool := decide (¬ mayS g.op g.push)
@[reducible] def qPush (g : StG) : Bool := decide (g.op ≠ 1)
theorem drop_ixdS {gs : List StG} {i : Nat} (h : i < gs.length) : gs.drop i = ixd gs (i : Int) :: gs.drop (i + 1) := by
  rw [ixd_eq (by omega), List.drop_eq_getElem_cons h]; rfl
theorem code_IdxM (lA : Option Addr) (lc : Nat) (l : List StG) (w0 : World) (hl : Slr w0 RSt (.slice lA l.length lc) l) (q_l : StP w0 l) (hp : StN l) :
    Ct Tryd.prog 60 [.slice lA l.length lc, (.func (.func 45) #[] #[])] w0 no (fun ((e0) : Int) => .int .i64 e0) (fun (e0) => []) (fun (e0) => e0 = idxS qMay l 0) := by
  have hst := St.start w0
  have i_l := Rw.old hl
  have j_l := StR.old q_l
  refine genter _ hst Tryd.func60 rfl rfl rfl rfl ?_
  have hcap := hl.cap
  repeat' (first
   | (refine kO ?_; first | refine gv rfl rfl ?_ | refine gnil ?_ | refine gl rfl (lvb rfl rfl) rfl (fun _ => ?_) | refine gl rfl (lvB rfl rfl rfl) rfl (fun _ => ?_) | refine gl rfl (lve rfl rfl) rfl (fun _ => ?_) | refine gl rfl (lvE rfl rfl rfl) rfl (fun _ => ?_) | refine gl rfl (lva rfl rfl rfl rfl rfl) rfl (fun _ => ?_) | refine gp rfl (by (try simp only [InR]); omega) rfl ?_ | refine gix rfl rfl rfl rfl (by omega) rfl (fun _ => ?_) | refine gixa rfl rfl rfl rfl (by omega) rfl (fun _ => ?_) | (refine kK ?_; first | refine gcall rfl ?_ rfl (fun _ _ => ?_) (fun _ _ => ?_) | refine gcv rfl rfl ?_ rfl (fun _ _ => ?_) (fun _ _ => ?_) | refine gcc1 rfl rfl ?_ rfl (fun _ _ => ?_) (fun _ _ => ?_)) | refine gw rfl rfl ?_)
   | (refine kC ?_; first | refine gseq ?_ | refine greg ?_ | refine gret ?_ | refine gskip ?_ | (refine gcond rfl (fun h => ?_) (fun h => ?_) <;> (first | exact h.elim | (exfalso; omega) | exact absurd h (by assumption) | exact absurd (by assumption) h | skip)) | refine gblk ?_ | refine gexit ?_)
   | (refine kN ?_; first | refine gthen ?_ | refine gnblk ?_)
   | (refine kR ?_; first | refine grs ?_ | refine grb ?_ | refine grl ?_ | refine grc ?_)
   | (refine kX ?_; first | refine gxs ?_ | refine gxb ?_ | refine gxn rfl ?_ | refine gxl ?_ | refine gxc ?_)
   | (refine kR ?_; refine gr rfl (rvT rfl rv0) (_) rfl Ent.nil ?_)
   | (refine Pre.mk ?_; first | exact True.intro | omega | ((repeat' (first | refine And.intro ?_ ?_ | exact True.intro | assumption | omega)); done) | (simp only [and_true, true_and, or_true, true_or]; first | done | omega))
   | (refine kD ?_; first | exact dm_none))
  refine gloopc [0, 1, 7] (fun (i : Nat) K => (8, .int .i64 i) :: K) (fun i => i ≤ l.length ∧ idxS qMay l 0 = idxS qMay (l.drop i) i) (fun i => l.length - i) 0 rfl (by repeat (first | exact trivial | refine ⟨rfl, ?_⟩)) (by simp) (fun i hi => ?_)
  repeat' (first
   | (refine kO ?_; first | refine gv rfl rfl ?_ | refine gnil ?_ | refine gl rfl (lvb rfl rfl) rfl (fun _ => ?_) | refine gl rfl (lvB rfl rfl rfl) rfl (fun _ => ?_) | refine gl rfl (lve rfl rfl) rfl (fun _ => ?_) | refine gl rfl (lvE rfl rfl rfl) rfl (fun _ => ?_) | refine gl rfl (lva rfl rfl rfl rfl rfl) rfl (fun _ => ?_) | refine gp rfl (by (try simp only [InR]); omega) rfl ?_ | refine gix rfl rfl rfl rfl (by omega) rfl (fun _ => ?_) | refine gixa rfl rfl rfl rfl (by omega) rfl (fun _ => ?_) | (refine kK ?_; first | refine gcall rfl ?_ rfl (fun _ _ => ?_) (fun _ _ => ?_) | refine gcv rfl rfl ?_ rfl (fun _ _ => ?_) (fun _ _ => ?_) | refine gcc1 rfl rfl ?_ rfl (fun _ _ => ?_) (fun _ _ => ?_)) | refine gw rfl rfl ?_)
   | (refine kC ?_; first | refine gseq ?_ | refine greg ?_ | refine gret ?_ | refine gskip ?_ | (refine gcond rfl (fun h => ?_) (fun h => ?_) <;> (first | exact h.elim | (exfalso; omega) | exact absurd h (by assumption) | exact absurd (by assumption) h | skip)) | refine gblk ?_ | refine gexit ?_)
   | (refine kN ?_; first | refine gthen ?_ | refine gnblk ?_)
   | (refine kR ?_; first | refine grs ?_ | refine grb ?_ | refine grl ?_ | refine grc ?_)
   | (refine kX ?_; first | refine gxs ?_ | refine gxb ?_ | refine gxn rfl ?_ | refine gxl ?_ | refine gxc ?_)
   | (refine kR ?_; refine gr rfl (rvT rfl rv0) (_) rfl Ent.nil ?_)
   | (refine Pre.mk ?_; first | exact True.intro | omega | ((repeat' (first | refine And.intro ?_ ?_ | exact True.intro | assumption | omega)); done) | (simp only [and_true, true_and, or_true, true_or]; first | done | omega))
   | (refine kD ?_; first | exact dm_none))
  · have hd := drop_ixdS (gs := l) (i := i) (by omega)
    rw [hi.2, hd, idxS, if_pos (decide_eq_true h)]
  · have hd := drop_ixdS (gs := l) (i := i) (by omega)
    refine gnl (i + 1) (by repeat (first | exact trivial | refine ⟨rfl, ?_⟩)) (Ent.refl _) ⟨by omega, ?_⟩ (by omega)
    rw [hi.2, hd, idxS, if_neg (by unfold qMay; simp [h])]; rfl
  · rw [hi.2, List.drop_eq_nil_of_le (by omega)]; rfl
instance c_code_IdxM {lA : Option Addr} {lc ln : Nat} {l : List StG} {w0 : World} {X : Nat → Prop} {L : List Assn} [hl : Rw w0 X L (.slice lA ln lc) RSt l] [q_l : StR w0 X L l] : Ctr Tryd.prog 60 [.slice lA ln lc, (.func (.func 45) #[] #[])] w0 X L (StN l) (fun _ : Unit => .int .i64 (idxS qMay l 0)) (fun _ : Unit => L) (fun _ : Unit => (0 ≤ idxS qMay l 0 ↔ ∃ p ∈ l, qMay p = true)) :=
  ctr' (M' := (fun _ : Unit => [])) (by kernel_rfl) (fun hp w hw => by have el := hl.len hw; subst el; exact code_IdxM _ _ _ w (hl.get w hw) (q_l.get w hw) hp) (by rintro hp e0 rfl ok; exact ⟨(), rfl, rfl, idxS_iff (Int.le_refl 0)⟩)
theorem code_IdxP (lA : Option Addr) (lc : Nat) (l : List StG) (w0 : World) (hl : Slr w0 RSt (.slice lA l.length lc) l) (q_l : StP w0 l) (hp : StN l) :
    Ct Tryd.prog 60 [.slice lA l.length lc, (.func (.func 43) #[] #[])] w0 no (fun ((e0) : Int) => .int .i64 e0) (fun (e0) => []) (fun (e0) => e0 = idxS qPush l 0) := by
  have hst := St.start w0
  have i_l := Rw.old hl
  have j_l := StR.old q_l
  refine genter _ hst Tryd.func60 rfl rfl rfl rfl ?_
  have hcap := hl.cap
  repeat' (first
   | (refine kO ?_; first | refine gv rfl rfl ?_ | refine gnil ?_ | refine gl rfl (lvb rfl rfl) rfl (fun _ => ?_) | refine gl rfl (lvB rfl rfl rfl) rfl (fun _ => ?_) | refine gl rfl (lve rfl rfl) rfl (fun _ => ?_) | refine gl rfl (lvE rfl rfl rfl) rfl (fun _ => ?_) | refine gl rfl (lva rfl rfl rfl rfl rfl) rfl (fun _ => ?_) | refine gp rfl (by (try simp only [InR]); omega) rfl ?_ | refine gix rfl rfl rfl rfl (by omega) rfl (fun _ => ?_) | refine gixa rfl rfl rfl rfl (by omega) rfl (fun _ => ?_) | (refine kK ?_; first | refine gcall rfl ?_ rfl (fun _ _ => ?_) (fun _ _ => ?_) | refine gcv rfl rfl ?_ rfl (fun _ _ => ?_) (fun _ _ => ?_) | refine gcc1 rfl rfl ?_ rfl (fun _ _ => ?_) (fun _ _ => ?_)) | refine gw rfl rfl ?_)
   | (refine kC ?_; first | refine gseq ?_ | refine greg ?_ | refine gret ?_ | refine gskip ?_ | (refine gcond rfl (fun h => ?_) (fun h => ?_) <;> (first | exact h.elim | (exfalso; omega) | exact absurd h (by assumption) | exact absurd (by assumption) h | skip)) | refine gblk ?_ | refine gexit ?_)
   | (refine kN ?_; first | refine gthen ?_ | refine gnblk ?_)
   | (refine kR ?_; first | refine grs ?_ | refine grb ?_ | refine grl ?_ | refine grc ?_)
   | (refine kX ?_; first | refine gxs ?_ | refine gxb ?_ | refine gxn rfl ?_ | refine gxl ?_ | refine gxc ?_)
   | (refine kR ?_; refine gr rfl (rvT rfl rv0) (_) rfl Ent.nil ?_)
   | (refine Pre.mk ?_; first | exact True.intro | omega | ((repeat' (first | refine And.intro ?_ ?_ | exact True.intro | assumption | omega)); done) | (simp only [and_true, true_and, or_true, true_or]; first | done | omega))
   | (refine kD ?_; first | exact dm_none))
  refine gloopc [0, 1, 7] (fun (i : Nat) K => (8, .int .i64 i) :: K) (fun i => i ≤ l.length ∧ idxS qPush l 0 = idxS qPush (l.drop i) i) (fun i => l.length - i) 0 rfl (by repeat (first | exact trivial | refine ⟨rfl, ?_⟩)) (by simp) (fun i hi => ?_)
  have hb := fun h => StN.at hp (i := (i : Int)) ⟨by omega, h⟩
  repeat' (first
   | (refine kO ?_; first | refine gv rfl rfl ?_ | refine gnil ?_ | refine gl rfl (lvb rfl rfl) rfl (fun _ => ?_) | refine gl rfl (lvB rfl rfl rfl) rfl (fun _ => ?_) | refine gl rfl (lve rfl rfl) rfl (fun _ => ?_) | refine gl rfl (lvE rfl rfl rfl) rfl (fun _ => ?_) | refine gl rfl (lva rfl rfl rfl rfl rfl) rfl (fun _ => ?_) | refine gp rfl (by (try simp only [InR]); omega) rfl ?_ | refine gix rfl rfl rfl rfl (by omega) rfl (fun _ => ?_) | refine gixa rfl rfl rfl rfl (by omega) rfl (fun _ => ?_) | (refine kK ?_; first | refine gcall rfl ?_ rfl (fun _ _ => ?_) (fun _ _ => ?_) | refine gcv rfl rfl ?_ rfl (fun _ _ => ?_) (fun _ _ => ?_) | refine gcc1 rfl rfl ?_ rfl (fun _ _ => ?_) (fun _ _ => ?_)) | refine gw rfl rfl ?_)
   | (refine kC ?_; first | refine gseq ?_ | refine greg ?_ | refine gret ?_ | refine gskip ?_ | (refine gcond rfl (fun h => ?_) (fun h => ?_) <;> (first | exact h.elim | (exfalso; omega) | exact absurd h (by assumption) | exact absurd (by assumption) h | skip)) | refine gblk ?_ | refine gexit ?_)
   | (refine kN ?_; first | refine gthen ?_ | refine gnblk ?_)
   | (refine kR ?_; first | refine grs ?_ | refine grb ?_ | refine grl ?_ | refine grc ?_)
   | (refine kX ?_; first | refine gxs ?_ | refine gxb ?_ | refine gxn rfl ?_ | refine gxl ?_ | refine gxc ?_)
   | (refine kR ?_; refine gr rfl (rvT rfl rv0) (_) rfl Ent.nil ?_)
   | exact Pre.mk (hb (by assumption))
   | (refine Pre.mk ?_; first | exact True.intro | omega | ((repeat' (first | refine And.intro ?_ ?_ | exact True.intro | assumption | omega)); done) | (simp only [and_true, true_and, or_true, true_or]; first | done | omega))
   | (refine kD ?_; first | exact dm_none))
  · have hd := drop_ixdS (gs := l) (i := i) (by omega)
    rw [hi.2, hd, idxS, if_pos (decide_eq_true h)]
  · have hd := drop_ixdS (gs := l) (i := i) (by omega)
    refine gnl (i + 1) (by repeat (first | exact trivial | refine ⟨rfl, ?_⟩)) (Ent.refl _) ⟨by omega, ?_⟩ (by omega)
    rw [hi.2, hd, idxS, if_neg (by unfold qPush; simp [h])]; rfl
  · rw [hi.2, List.drop_eq_nil_of_le (by omega)]; rfl
instance c_code_IdxP {lA : Option Addr} {lc ln : Nat} {l : List StG} {w0 : World} {X : Nat → Prop} {L : List Assn} [hl : Rw w0 X L (.slice lA ln lc) RSt l] [q_l : StR w0 X L l] : Ctr Tryd.prog 60 [.slice lA ln lc, (.func (.func 43) #[] #[])] w0 X L (StN l) (fun _ : Unit => .int .i64 (idxS qPush l 0)) (fun _ : Unit => L) (fun _ : Unit => (0 ≤ idxS qPush l 0 ↔ ∃ p ∈ l, qPush p = true)) :=
  ctr' (M' := (fun _ : Unit => [])) (by kernel_rfl) (fun hp w hw => by have el := hl.len hw; subst el; exact code_IdxP _ _ _ w (hl.get w hw) (q_l.get w hw) hp) (by rintro hp e0 rfl ok; exact ⟨(), rfl, rfl, idxS_iff (Int.le_refl 0)⟩)
theorem notMay {l : List StG} : (∃ p ∈ l, qMay p = true) ↔ ¬ MayL (l.map stK) := by
  unfold MayL qMay
  simp only [decide_eq_true_eq, List.forall_mem_map, Classical.not_forall]
  constructor
  · rintro ⟨p, h1, h2⟩; exact ⟨p, h1, h2⟩
  · rintro ⟨p, h1, h2⟩; exact ⟨p, h1, h2⟩
def pushesB (l : List Stp) : Bool := l.all fun x => decide (x.1 = 1)
theorem notPush {l : List StG} : (∃ p ∈ l, qPush p = true) ↔ pushesB (l.map stK) = false := by
  unfold pushesB qPush
  simp
theorem code_ConM (lA : Option Addr) (lc : Nat) (l : List StG) (w0 : World) (hl : Slr w0 RSt (.slice lA l.length lc) l) (q_l : StP w0 l) (hp : StN l) :
    Ct Tryd.prog 42 [.slice lA l.length lc, (.func (.func 45) #[] #[])] w0 no (fun ((e0) : Bool) => .bool e0) (fun (e0) => []) (fun (e0) => e0 = decide (¬ MayL (l.map stK))) := by
  have hst := St.start w0
  have i_l := Rw.old hl
  have j_l := StR.old q_l
  refine genter _ hst Tryd.func42 rfl rfl rfl rfl ?_
  have hm := notMay (l := l)
  repeat' (first
   | (refine kO ?_; first | refine gv rfl rfl ?_ | refine gnil ?_ | refine gp rfl (by (try simp only [InR]); omega) rfl ?_ | (refine kK ?_; first | refine gcall rfl ?_ rfl (fun _ _ => ?_) (fun _ _ => ?_) | refine gcv rfl rfl ?_ rfl (fun _ _ => ?_) (fun _ _ => ?_) | refine gcc1 rfl rfl ?_ rfl (fun _ _ => ?_) (fun _ _ => ?_)))
   | (refine kC ?_; first | refine gseq ?_ | refine greg ?_ | refine gret ?_ | refine gskip ?_)
   | (refine kN ?_; first | refine gthen ?_)
   | (refine kR ?_; first | refine grs ?_ | refine grc ?_)
   | (refine kR ?_; refine gr rfl (rvT rfl rv0) (_) rfl Ent.nil ?_)
   | (refine Pre.mk ?_; first | exact True.intro | omega | ((repeat' (first | refine And.intro ?_ ?_ | exact True.intro | assumption | omega)); done) | (simp only [and_true, true_and, or_true, true_or]; first | done | omega))
   | (refine kD ?_; first | exact dm_none))
  all_goals grind
instance c_code_ConM {lA : Option Addr} {lc ln : Nat} {l : List StG} {w0 : World} {X : Nat → Prop} {L : List Assn} [hl : Rw w0 X L (.slice lA ln lc) RSt l] [q_l : StR w0 X L l] : Ctr Tryd.prog 42 [.slice lA ln lc, (.func (.func 45) #[] #[])] w0 X L (StN l) (fun _ : Unit => .bool (decide (¬ MayL (l.map stK)))) (fun _ : Unit => L) (fun _ : Unit => True) :=
  ctr' (M' := (fun _ : Unit => [])) (by kernel_rfl) (fun hp w hw => by have el := hl.len hw; subst el; exact code_ConM _ _ _ w (hl.get w hw) (q_l.get w hw) hp) (by rintro hp e0 rfl ok; exact ⟨(), rfl, rfl, trivial⟩)
theorem code_ConP (lA : Option Addr) (lc : Nat) (l : List StG) (w0 : World) (hl : Slr w0 RSt (.slice lA l.length lc) l) (q_l : StP w0 l) (hp : StN l) :
    Ct Tryd.prog 42 [.slice lA l.length lc, (.func (.func 43) #[] #[])] w0 no (fun ((e0) : Bool) => .bool e0) (fun (e0) => []) (fun (e0) => e0 = !(pushesB (l.map stK))) := by
  have hst := St.start w0
  have i_l := Rw.old hl
  have j_l := StR.old q_l
  refine genter _ hst Tryd.func42 rfl rfl rfl rfl ?_
  have hm := notPush (l := l)
  repeat' (first
   | (refine kO ?_; first | refine gv rfl rfl ?_ | refine gnil ?_ | refine gp rfl (by (try simp only [InR]); omega) rfl ?_ | (refine kK ?_; first | refine gcall rfl ?_ rfl (fun _ _ => ?_) (fun _ _ => ?_) | refine gcv rfl rfl ?_ rfl (fun _ _ => ?_) (fun _ _ => ?_) | refine gcc1 rfl rfl ?_ rfl (fun _ _ => ?_) (fun _ _ => ?_)))
   | (refine kC ?_; first | refine gseq ?_ | refine greg ?_ | refine gret ?_ | refine gskip ?_)
   | (refine kN ?_; first | refine gthen ?_)
   | (refine kR ?_; first | refine grs ?_ | refine grc ?_)
   | (refine kR ?_; refine gr rfl (rvT rfl rv0) (_) rfl Ent.nil ?_)
   | (refine Pre.mk ?_; first | exact True.intro | omega | ((repeat' (first | refine And.intro ?_ ?_ | exact True.intro | assumption | omega)); done) | (simp only [and_true, true_and, or_true, true_or]; first | done | omega))
   | (refine kD ?_; first | exact dm_none))
  all_goals grind
instance c_code_ConP {lA : Option Addr} {lc ln : Nat} {l : List StG} {w0 : World} {X : Nat → Prop} {L : List Assn} [hl : Rw w0 X L (.slice lA ln lc) RSt l] [q_l : StR w0 X L l] : Ctr Tryd.prog 42 [.slice lA ln lc, (.func (.func 43) #[] #[])] w0 X L (StN l) (fun _ : Unit => .bool (!(pushesB (l.map stK)))) (fun _ : Unit => L) (fun _ : Unit => True) :=
  ctr' (M' := (fun _ : Unit => [])) (by kernel_rfl) (fun hp w hw => by have el := hl.len hw; subst el; exact code_ConP _ _ _ w (hl.get w hw) (q_l.get w hw) hp) (by rintro hp e0 rfl ok; exact ⟨(), rfl, rfl, trivial⟩)
theorem code_Pushes (lA : Option Addr) (lc : Nat) (l : List StG) (w0 : World) (hl : Slr w0 RSt (.slice lA l.length lc) l) (q_l : StP w0 l) (hp : StN l) :
    Ct Tryd.prog 23 [.slice lA l.length lc] w0 no (fun ((e0) : Bool) => .bool e0) (fun (e0) => []) (fun (e0) => e0 = pushesB (l.map stK)) := by
  have hst := St.start w0
  have i_l := Rw.old hl
  have j_l := StR.old q_l
  refine genter _ hst Tryd.func23 rfl rfl rfl rfl ?_
  repeat' (first
   | (refine kO ?_; first | refine gv rfl rfl ?_ | refine gnil ?_ | (refine kK ?_; first | refine gcall rfl ?_ rfl (fun _ _ => ?_) (fun _ _ => ?_) | refine gcv rfl rfl ?_ rfl (fun _ _ => ?_) (fun _ _ => ?_) | refine gcc1 rfl rfl ?_ rfl (fun _ _ => ?_) (fun _ _ => ?_)))
   | (refine kC ?_; first | refine gseq ?_ | refine greg ?_ | refine gret ?_ | refine gskip ?_)
   | (refine kN ?_; first | refine gthen ?_)
   | (refine kR ?_; first | refine grs ?_ | refine grc ?_)
   | (refine kR ?_; refine gr rfl (rvT rfl rv0) (_) rfl Ent.nil ?_)
   | (refine Pre.mk ?_; first | exact True.intro | omega | ((repeat' (first | refine And.intro ?_ ?_ | exact True.intro | assumption | omega)); done) | (simp only [and_true, true_and, or_true, true_or]; first | done | omega))
   | (refine kD ?_; first | exact dm_none))
  all_goals grind
instance c_code_Pushes {lA : Option Addr} {lc ln : Nat} {l : List StG} {w0 : World} {X : Nat → Prop} {L : List Assn} [hl : Rw w0 X L (.slice lA ln lc) RSt l] [q_l : StR w0 X L l] : Ctr Tryd.prog 23 [.slice lA ln lc] w0 X L (StN l) (fun _ : Unit => .bool (pushesB (l.map stK))) (fun _ : Unit => L) (fun _ : Unit => True) :=
  ctr' (M' := (fun _ : Unit => [])) (by kernel_rfl) (fun hp w hw => by have el := hl.len hw; subst el; exact code_Pushes _ _ _ w (hl.get w hw) (q_l.get w hw) hp) (by rintro hp e0 rfl ok; exact ⟨(), rfl, rfl, trivial⟩)
theorem mayL_at {l : List StG} (h : MayL (l.map stK)) {i : Int} (hi : 0 ≤ i ∧ i < l.length) : mayS (ixd l i).op (ixd l i).push := by
  rw [ixd_eq (by omega)]
  exact h _ (List.mem_map.2 ⟨_, List.getElem_mem _, rfl⟩)
theorem mayL_of {l : List StG} (h : ∀ j : Nat, j < l.length → mayS (ixd l (j : Int)).op (ixd l (j : Int)).push) : MayL (l.map stK) := fun x hx => by
  obtain ⟨g, hg, rfl⟩ := List.mem_map.1 hx
  obtain ⟨j, hj, rfl⟩ := List.mem_iff_getElem.1 hg
  have := h j hj
  rw [ixd_eq (by omega)] at this
  exact this
theorem flat_take {l : List StG} {i : Nat} (h : i < l.length) : ((l.map stK).take (i + 1)).flatMap stepB = ((l.map stK).take i).flatMap stepB ++ stepB (stK (ixd l (i : Int))) := by
  rw [List.take_succ_eq_append_getElem (by simpa using h), List.flatMap_append, ixd_eq (by omega)]
  simp
theorem flatS_len : ∀ {l : List Stp}, MayL l → (l.flatMap stepB).length ≤ 3003 * l.length
  | [], _ => by simp
  | x :: l, h => by
    have h1 := stepB_len (h x (by simp))
    have h2 := flatS_len (l := l) (fun y hy => h y (by simp [hy]))
    rw [List.flatMap_cons, List.length_append, List.length_cons]; omega
theorem flatS_take_len {l : List Stp} (h : MayL l) (i : Nat) : ((l.take i).flatMap stepB).length ≤ 3003 * l.length := by
  have h1 := flatS_len (l := l.take i) (fun x hx => h x (List.mem_of_mem_take hx))
  have h2 : (l.take i).length ≤ l.length := by rw [List.length_take]; omega
  omega
theorem putSE_no {l : List Stp} (h : ¬ MayL l) : ([] : List UInt8) = putSL l ∧ (2 : Int) = putSE l := by
  have e : putSE l = 2 := if_pos h
  unfold putSL; rw [e, if_neg (by decide)]; exact ⟨rfl, rfl⟩
theorem putSE_long {l : List Stp} (h : MayL l) (h2 : 200 < l.length) : ([] : List UInt8) = putSL l ∧ (3 : Int) = putSE l := by
  have e : putSE l = 3 := by unfold putSE; rw [if_neg (not_not_intro h), if_pos h2]
  unfold putSL; rw [e, if_neg (by decide)]; exact ⟨rfl, rfl⟩
theorem putSE_ok {l : List Stp} (h : MayL l) (h2 : l.length ≤ 200) : l.flatMap stepB = putSL l ∧ (0 : Int) = putSE l := by
  have e : putSE l = 0 := by unfold putSE; rw [if_neg (not_not_intro h), if_neg (by omega)]
  unfold putSL; rw [e, if_pos rfl]; exact ⟨rfl, rfl⟩
theorem shr8 (z : Int) : z / 2 ^ 8 = z / 256 := by simp
instance elm128 : Elm RB (.int .u8 128) (128 : UInt8) := ⟨rfl⟩
theorem code_Put (lA : Option Addr) (lc : Nat) (l : List StG) (w0 : World) (hl : Slr w0 RSt (.slice lA l.length lc) l) (q_l : StP w0 l) (hp : StN l) :
    Ct Tryd.prog 29 [.slice lA l.length lc] w0 no (fun ((⟨s0, n0, x0⟩, e1) : Br UInt8 × Int) => .tuple #[.slice s0.A n0 s0.c, .int .i64 e1]) (fun (⟨s0, n0, x0⟩, e1) => [rw_ 5 RB s0 n0 x0]) (fun (⟨s0, n0, x0⟩, e1) => x0 = (putSL (l.map stK)) ∧ e1 = putSE (l.map stK)) := by
  have hst := St.start w0
  have i_l := Rw.old hl
  have j_l := StR.old q_l
  refine genter _ hst Tryd.func29 rfl rfl rfl rfl ?_
  have hcap := hl.cap
  have hml : (l.map stK).length = l.length := List.length_map ..
  repeat' (first
   | (refine kO ?_; first | refine gv rfl rfl ?_ | refine gnil ?_ | refine gl rfl (lvb rfl rfl) rfl (fun _ => ?_) | refine gl rfl (lvB rfl rfl rfl) rfl (fun _ => ?_) | refine gl rfl (lve rfl rfl) rfl (fun _ => ?_) | refine gl rfl (lvE rfl rfl rfl) rfl (fun _ => ?_) | refine gl rfl (lva rfl rfl rfl rfl rfl) rfl (fun _ => ?_) | refine gp rfl (by (try simp only [InR]); omega) rfl ?_ | refine gsh rfl (by (try simp only [InR]); omega) rfl ?_ | refine gsv rfl (by (try simp only [InR, InSh]); omega) rfl ?_ | refine gf rfl rfl rfl ?_ | refine gix rfl rfl rfl rfl (by omega) rfl (fun _ => ?_) | refine gixa rfl rfl rfl rfl (by omega) rfl (fun _ => ?_) | (refine kK ?_; first | refine gcall rfl ?_ rfl (fun _ _ => ?_) (fun _ _ => ?_) | refine gcv rfl rfl ?_ rfl (fun _ _ => ?_) (fun _ _ => ?_) | refine gcc1 rfl rfl ?_ rfl (fun _ _ => ?_) (fun _ _ => ?_)) | refine gneq rfl rfl (by kernel_rfl) ?_ rfl ?_ | refine ga rfl (fun _ => ?_) (fun _ => ?_) | refine gst rfl rfl rfl rfl ?_ ?_ | refine ge rfl rfl rfl rfl ?_ ?_ | refine gea rfl rfl rfl rfl rfl rfl rfl ?_ ?_ | refine gap rfl rfl rfl (by omega) rfl (fun _ => ?_) (fun _ => ?_) | refine gan rfl rfl rfl (by omega) rfl (fun _ => ?_) (fun _ => ?_) | refine gapz rfl rfl rfl rfl (by omega) rfl (fun _ => ?_) (fun _ => ?_) | refine ganz rfl rfl rfl rfl (by omega) rfl (fun _ => ?_) (fun _ => ?_) | refine gbs RB rfl rfl rfl rfl rfl rfl (fun _ => ?_) (fun _ => ?_) | refine gbb rfl rfl rfl (by first | (simp; done) | (simp only [and_true]; omega)) rfl rfl rfl rfl (fun _ => ?_) (fun _ => ?_) | refine gb rfl rfl rfl rfl ?_ | refine gss rfl (by (try simp only [InR, InSh]); omega) rfl ?_ | refine gw rfl rfl ?_)
   | (refine kC ?_; first | refine gseq ?_ | refine greg ?_ | refine gret ?_ | refine gskip ?_ | (refine gcond rfl (fun h => ?_) (fun h => ?_) <;> (first | exact h.elim | (exfalso; omega) | exact absurd h (by assumption) | exact absurd (by assumption) h | skip)) | refine gblk ?_ | refine gexit ?_)
   | (refine kN ?_; first | refine gthen ?_ | refine gnblk ?_)
   | (refine kR ?_; first | refine grs ?_ | refine grb ?_ | refine grl ?_ | refine grc ?_)
   | (refine kX ?_; first | refine gxs ?_ | refine gxb ?_ | refine gxn rfl ?_ | refine gxl ?_ | refine gxc ?_)
   | (refine kR ?_; refine gr rfl (rvT rfl (rvT rfl rv0)) (⟨_, _, _⟩, _) rfl (er Ent.nil) ?_)
   | (refine kR ?_; refine gr rfl (rvT rfl (rvT rfl rv0)) (⟨⟨none, 0⟩, 0, []⟩, _) rfl (er0 Ent.nil) ?_)
   | (refine Pre.mk ?_; first | exact True.intro | omega | ((repeat' (first | refine And.intro ?_ ?_ | exact True.intro | assumption | omega)); done) | (simp only [and_true, true_and, or_true, true_or]; first | done | omega))
   | (refine kD ?_; first | exact dm_none))
  · exact putSE_no (by assumption)
  · exact putSE_long (by assumption) (by omega)
  · have hm : MayL (l.map stK) := by assumption
    refine gloop2 [13, 14] (fun (i : Nat) (s : Sv) K => (4, .slice s.A (((l.map stK).take i).flatMap stepB).length s.c) :: (15, .int .i64 i) :: K) (fun i s => [rw_ 5 RB s (((l.map stK).take i).flatMap stepB).length (((l.map stK).take i).flatMap stepB)]) (fun i s => i ≤ l.length) (fun i s => l.length - i) 0 ⟨none, 0⟩ rfl (by repeat (first | exact trivial | refine ⟨rfl, ?_⟩)) (er0 Ent.nil) (by omega) (fun i s hi => ?_)
    have hto := fun h => StN.at hp (i := (i : Int)) ⟨by omega, h⟩
    have hmy := fun h => mayL_at hm (i := (i : Int)) ⟨by omega, h⟩
    have hfl := flatS_take_len hm i
    have hpu : (i : Int) < l.length → (ixd l (i : Int)).push.length ≤ 100000 := fun h => by have := hmy h; unfold mayS at this; split at this <;> omega
    have hft := fun h => flat_take (l := l) (i := i) h
    have hE : ∀ y, (i : Int) < l.length → stepB (stK (ixd l (i : Int))) = y → ((l.map stK).take (i + 1)).flatMap stepB = ((l.map stK).take i).flatMap stepB ++ y := fun y h e => by rw [hft (by omega), e]
    repeat' (first
     | (refine kO ?_; first | refine gv rfl rfl ?_ | refine gnil ?_ | refine gl rfl (lvb rfl rfl) rfl (fun _ => ?_) | refine gl rfl (lvB rfl rfl rfl) rfl (fun _ => ?_) | refine gl rfl (lve rfl rfl) rfl (fun _ => ?_) | refine gl rfl (lvE rfl rfl rfl) rfl (fun _ => ?_) | refine gl rfl (lva rfl rfl rfl rfl rfl) rfl (fun _ => ?_) | refine gp rfl (by (try simp only [InR]); omega) rfl ?_ | refine gsh rfl (by (try simp only [InR]); omega) rfl ?_ | refine gsv rfl (by (try simp only [InR, InSh]); omega) rfl ?_ | refine gf rfl rfl rfl ?_ | refine gix rfl rfl rfl rfl (by omega) rfl (fun _ => ?_) | refine gixa rfl rfl rfl rfl (by omega) rfl (fun _ => ?_) | (refine kK ?_; first | refine gcall rfl ?_ rfl (fun _ _ => ?_) (fun _ _ => ?_) | refine gcv rfl rfl ?_ rfl (fun _ _ => ?_) (fun _ _ => ?_) | refine gcc1 rfl rfl ?_ rfl (fun _ _ => ?_) (fun _ _ => ?_)) | refine gneq rfl rfl (by kernel_rfl) ?_ rfl ?_ | refine ga rfl (fun _ => ?_) (fun _ => ?_) | refine gst rfl rfl rfl rfl ?_ ?_ | refine ge rfl rfl rfl rfl ?_ ?_ | refine gea rfl rfl rfl rfl rfl rfl rfl ?_ ?_ | refine gap rfl rfl rfl (by omega) rfl (fun _ => ?_) (fun _ => ?_) | refine gan rfl rfl rfl (by omega) rfl (fun _ => ?_) (fun _ => ?_) | refine gapz rfl rfl rfl rfl (by omega) rfl (fun _ => ?_) (fun _ => ?_) | refine ganz rfl rfl rfl rfl (by omega) rfl (fun _ => ?_) (fun _ => ?_) | refine gbs RB rfl rfl rfl rfl rfl rfl (fun _ => ?_) (fun _ => ?_) | refine gbb rfl rfl rfl (by first | (simp; done) | (simp only [and_true]; omega)) rfl rfl rfl rfl (fun _ => ?_) (fun _ => ?_) | refine gb rfl rfl rfl rfl ?_ | refine gss rfl (by (try simp only [InR, InSh]); omega) rfl ?_ | refine gw rfl rfl ?_)
     | (refine kC ?_; first | refine gseq ?_ | refine greg ?_ | refine gret ?_ | refine gskip ?_ | (refine gcond rfl (fun h => ?_) (fun h => ?_) <;> (first | exact h.elim | (exfalso; omega) | exact absurd h (by assumption) | exact absurd (by assumption) h | skip)) | refine gblk ?_ | refine gexit ?_)
     | (refine kN ?_; first | refine gthen ?_ | refine gnblk ?_)
     | (refine kR ?_; first | refine grs ?_ | refine grb ?_ | refine grl ?_ | refine grc ?_)
     | (refine kX ?_; first | refine gxs ?_ | refine gxb ?_ | refine gxn rfl ?_ | refine gxl ?_ | refine gxc ?_)
     | (refine kR ?_; refine gr rfl (rvT rfl (rvT rfl rv0)) (⟨_, _, _⟩, _) rfl (er Ent.nil) ?_)
     | (refine kR ?_; refine gr rfl (rvT rfl (rvT rfl rv0)) (⟨⟨none, 0⟩, 0, []⟩, _) rfl (er0 Ent.nil) ?_)
     | (refine Pre.mk ?_; first | exact True.intro | omega | ((repeat' (first | refine And.intro ?_ ?_ | exact True.intro | assumption | omega)); done) | (simp only [and_true, true_and, or_true, true_or]; first | done | omega))
     | (refine kD ?_; first | exact dm_none))
    · rename_i s1 s'
      have e := hE [u8 (127 + (ixd l (i : Int)).op)] (by assumption) (by unfold stepB; rw [if_pos h])
      rw [show 128 + (ixd l (i : Int)).op - 1 = 127 + (ixd l (i : Int)).op by omega]
      exact gnl2 (i + 1) s' (by rw [e, List.length_append]; exact (by repeat (first | exact trivial | refine ⟨rfl, ?_⟩))) (by rw [e, List.length_append]; exact er Ent.nil) (by omega) (by omega)
    · rename_i s1 _ _ s'
      have e := hE (u8 (ixd l (i : Int)).push.length :: (ixd l (i : Int)).push) (by assumption) (by unfold stepB; rw [if_neg (not_not_intro (by assumption)), if_pos (by simp only; omega)])
      have e2 : ((l.map stK).take (i + 1)).flatMap stepB = ((l.map stK).take i).flatMap stepB ++ [u8 (ixd l (i : Int)).push.length] ++ (ixd l (i : Int)).push := by rw [e, List.append_assoc]; rfl
      exact gnl2 (i + 1) s' (by rw [e2, List.length_append, List.length_append]; exact (by repeat (first | exact trivial | refine ⟨rfl, ?_⟩))) (by rw [e2, List.length_append, List.length_append]; exact er Ent.nil) (by omega) (by omega)
    · rename_i s1 _ _ s'
      have e := hE (128 :: u8 (ixd l (i : Int)).push.length :: u8 (((ixd l (i : Int)).push.length : Int) / 256) :: (ixd l (i : Int)).push) (by assumption) (by unfold stepB; rw [if_neg (not_not_intro (by assumption)), if_neg (by simp only; omega)])
      have e2 : ((l.map stK).take (i + 1)).flatMap stepB = ((l.map stK).take i).flatMap stepB ++ [128, u8 (ixd l (i : Int)).push.length, u8 (((ixd l (i : Int)).push.length : Int) / 256)] ++ (ixd l (i : Int)).push := by rw [e, List.append_assoc]; rfl
      simp only [Int.reduceToNat, shr8]
      exact gnl2 (i + 1) s' (by rw [e2, List.length_append, List.length_append]; exact (by repeat (first | exact trivial | refine ⟨rfl, ?_⟩))) (by rw [e2, List.length_append, List.length_append]; exact er Ent.nil) (by omega) (by omega)
    · show _ = putSL (l.map stK) ∧ _ = putSE (l.map stK)
      rw [List.take_of_length_le (by omega)]
      exact putSE_ok hm (by omega)
instance c_code_Put {lA : Option Addr} {lc ln : Nat} {l : List StG} {w0 : World} {X : Nat → Prop} {L : List Assn} [hl : Rw w0 X L (.slice lA ln lc) RSt l] [q_l : StR w0 X L l] : Ctr Tryd.prog 29 [.slice lA ln lc] w0 X L (StN l) (fun s0 : Sv => .tuple #[.slice s0.A (putSL (l.map stK)).length s0.c, .int .i64 (putSE (l.map stK))]) (fun s0 : Sv => rw_ 5 RB s0 (putSL (l.map stK)).length (putSL (l.map stK)) :: L) (fun s0 : Sv => True) :=
  ctr' (M' := (fun s0 : Sv => [rw_ 5 RB s0 (putSL (l.map stK)).length (putSL (l.map stK))])) (by kernel_rfl) (fun hp w hw => by have el := hl.len hw; subst el; exact code_Put _ _ _ w (hl.get w hw) (q_l.get w hw) hp) (by rintro hp ⟨⟨s0, n0, x0⟩, e1⟩ ⟨rfl, rfl⟩ ok; cases ok.row; exact ⟨s0, rfl, rfl, trivial⟩)
instance elmMod {a : Int} : Elm RB (.int .u8 (a % 256)) (u8 a) := ⟨by rw [← u8_toNat]; rfl⟩
theorem ref11_Put (lA : Option Addr) (lc : Nat) (l : List StG) (w0 : World) (hl : Slr w0 RSt (.slice lA l.length lc) l) (q_l : StP w0 l) (hp : StN l) :
    Ct Tryd.prog 13 [.slice lA l.length lc] w0 no (fun ((⟨s0, n0, x0⟩, e1) : Br UInt8 × Int) => .tuple #[.slice s0.A n0 s0.c, .int .i64 e1]) (fun (⟨s0, n0, x0⟩, e1) => [rw_ 5 RB s0 n0 x0]) (fun (⟨s0, n0, x0⟩, e1) => x0 = (putSL (l.map stK)) ∧ e1 = putSE (l.map stK)) := by
  have hst := St.start w0
  have i_l := Rw.old hl
  have j_l := StR.old q_l
  refine genter _ hst Tryd.func13 rfl rfl rfl rfl ?_
  have hcap := hl.cap
  have hml : (l.map stK).length = l.length := List.length_map ..
  repeat' (first
   | (refine kO ?_; first | refine gv rfl rfl ?_ | refine gnil ?_ | refine gl rfl (lvb rfl rfl) rfl (fun _ => ?_) | refine gl rfl (lvB rfl rfl rfl) rfl (fun _ => ?_) | refine gl rfl (lve rfl rfl) rfl (fun _ => ?_) | refine gl rfl (lvE rfl rfl rfl) rfl (fun _ => ?_) | refine gl rfl (lva rfl rfl rfl rfl rfl) rfl (fun _ => ?_) | refine gp rfl (by (try simp only [InR]); omega) rfl ?_ | refine gf rfl rfl rfl ?_ | refine gix rfl rfl rfl rfl (by omega) rfl (fun _ => ?_) | refine gixa rfl rfl rfl rfl (by omega) rfl (fun _ => ?_) | (refine kK ?_; first | refine gcall rfl ?_ rfl (fun _ _ => ?_) (fun _ _ => ?_) | refine gcv rfl rfl ?_ rfl (fun _ _ => ?_) (fun _ _ => ?_) | refine gcc1 rfl rfl ?_ rfl (fun _ _ => ?_) (fun _ _ => ?_)) | refine gneq rfl rfl (by kernel_rfl) ?_ rfl ?_ | refine gap rfl rfl rfl (by omega) rfl (fun _ => ?_) (fun _ => ?_) | refine gan rfl rfl rfl (by omega) rfl (fun _ => ?_) (fun _ => ?_) | refine gapz rfl rfl rfl rfl (by omega) rfl (fun _ => ?_) (fun _ => ?_) | refine ganz rfl rfl rfl rfl (by omega) rfl (fun _ => ?_) (fun _ => ?_) | refine gbs RB rfl rfl rfl rfl rfl rfl (fun _ => ?_) (fun _ => ?_) | refine gbb rfl rfl rfl (by first | (simp; done) | (simp only [and_true]; omega)) rfl rfl rfl rfl (fun _ => ?_) (fun _ => ?_) | refine gb rfl rfl rfl rfl ?_ | refine gw rfl rfl ?_)
   | (refine kC ?_; first | refine gseq ?_ | refine greg ?_ | refine gret ?_ | refine gskip ?_ | (refine gcond rfl (fun h => ?_) (fun h => ?_) <;> (first | exact h.elim | (exfalso; omega) | exact absurd h (by assumption) | exact absurd (by assumption) h | skip)) | refine gblk ?_ | refine gexit ?_)
   | (refine kN ?_; first | refine gthen ?_ | refine gnblk ?_)
   | (refine kR ?_; first | refine grs ?_ | refine grb ?_ | refine grl ?_ | refine grc ?_)
   | (refine kX ?_; first | refine gxs ?_ | refine gxb ?_ | refine gxn rfl ?_ | refine gxl ?_ | refine gxc ?_)
   | (refine kR ?_; refine gr rfl (rvT rfl (rvT rfl rv0)) (⟨_, _, _⟩, _) rfl (er Ent.nil) ?_)
   | (refine kR ?_; refine gr rfl (rvT rfl (rvT rfl rv0)) (⟨⟨none, 0⟩, 0, []⟩, _) rfl (er0 Ent.nil) ?_)
   | (refine Pre.mk ?_; first | exact True.intro | omega | ((repeat' (first | refine And.intro ?_ ?_ | exact True.intro | assumption | omega)); done) | (simp only [and_true, true_and, or_true, true_or]; first | done | omega))
   | (refine kD ?_; first | exact dm_none))
  refine gloopc [0] (fun (i : Nat) K => (4, .int .i64 i) :: K) (fun i => i ≤ l.length ∧ ∀ j : Nat, j < i → mayS (ixd l (j : Int)).op (ixd l (j : Int)).push) (fun i => l.length - i) 0 rfl (by repeat (first | exact trivial | refine ⟨rfl, ?_⟩)) (by simp) (fun i hi => ?_)
  obtain ⟨i1, i2⟩ := hi
  have hto := fun h => StN.at hp (i := (i : Int)) ⟨by omega, h⟩
  repeat' (first
   | (refine kO ?_; first | refine gv rfl rfl ?_ | refine gnil ?_ | refine gl rfl (lvb rfl rfl) rfl (fun _ => ?_) | refine gl rfl (lvB rfl rfl rfl) rfl (fun _ => ?_) | refine gl rfl (lve rfl rfl) rfl (fun _ => ?_) | refine gl rfl (lvE rfl rfl rfl) rfl (fun _ => ?_) | refine gl rfl (lva rfl rfl rfl rfl rfl) rfl (fun _ => ?_) | refine gp rfl (by (try simp only [InR]); omega) rfl ?_ | refine gf rfl rfl rfl ?_ | refine gix rfl rfl rfl rfl (by omega) rfl (fun _ => ?_) | refine gixa rfl rfl rfl rfl (by omega) rfl (fun _ => ?_) | (refine kK ?_; first | refine gcall rfl ?_ rfl (fun _ _ => ?_) (fun _ _ => ?_) | refine gcv rfl rfl ?_ rfl (fun _ _ => ?_) (fun _ _ => ?_) | refine gcc1 rfl rfl ?_ rfl (fun _ _ => ?_) (fun _ _ => ?_)) | refine gneq rfl rfl (by kernel_rfl) ?_ rfl ?_ | refine gap rfl rfl rfl (by omega) rfl (fun _ => ?_) (fun _ => ?_) | refine gan rfl rfl rfl (by omega) rfl (fun _ => ?_) (fun _ => ?_) | refine gapz rfl rfl rfl rfl (by omega) rfl (fun _ => ?_) (fun _ => ?_) | refine ganz rfl rfl rfl rfl (by omega) rfl (fun _ => ?_) (fun _ => ?_) | refine gbs RB rfl rfl rfl rfl rfl rfl (fun _ => ?_) (fun _ => ?_) | refine gbb rfl rfl rfl (by first | (simp; done) | (simp only [and_true]; omega)) rfl rfl rfl rfl (fun _ => ?_) (fun _ => ?_) | refine gb rfl rfl rfl rfl ?_ | refine gw rfl rfl ?_)
   | (refine kC ?_; first | refine gseq ?_ | refine greg ?_ | refine gret ?_ | refine gskip ?_ | (refine gcond rfl (fun h => ?_) (fun h => ?_) <;> (first | exact h.elim | (exfalso; omega) | exact absurd h (by assumption) | exact absurd (by assumption) h | skip)) | refine gblk ?_ | refine gexit ?_)
   | (refine kN ?_; first | refine gthen ?_ | refine gnblk ?_)
   | (refine kR ?_; first | refine grs ?_ | refine grb ?_ | refine grl ?_ | refine grc ?_)
   | (refine kX ?_; first | refine gxs ?_ | refine gxb ?_ | refine gxn rfl ?_ | refine gxl ?_ | refine gxc ?_)
   | (refine kR ?_; refine gr rfl (rvT rfl (rvT rfl rv0)) (⟨_, _, _⟩, _) rfl (er Ent.nil) ?_)
   | (refine kR ?_; refine gr rfl (rvT rfl (rvT rfl rv0)) (⟨⟨none, 0⟩, 0, []⟩, _) rfl (er0 Ent.nil) ?_)
   | (refine Pre.mk ?_; first | exact True.intro | omega | ((repeat' (first | refine And.intro ?_ ?_ | exact True.intro | assumption | omega)); done) | (simp only [and_true, true_and, or_true, true_or]; first | done | omega))
   | (refine kD ?_; first | exact dm_none))
  · have hi1 : (i : Int) < l.length := by assumption
    exact putSE_no fun hm => h (mayL_at hm ⟨by omega, hi1⟩)
  · refine gnl (i + 1) (by repeat (first | exact trivial | refine ⟨rfl, ?_⟩)) (Ent.refl _) ⟨by omega, fun j hj => ?_⟩ (by omega)
    by_cases e : j = i
    · subst e; exact h
    · exact i2 j (by omega)
  · have hm : MayL (l.map stK) := mayL_of fun j hj => i2 j (by omega)
    exact putSE_long hm (by omega)
  · have hm : MayL (l.map stK) := mayL_of fun j hj => i2 j (by omega)
    refine gloop2 [0] (fun (i : Nat) (s : Sv) K => (5, .slice s.A (((l.map stK).take i).flatMap stepB).length s.c) :: (6, .int .i64 i) :: K) (fun i s => [rw_ 5 RB s (((l.map stK).take i).flatMap stepB).length (((l.map stK).take i).flatMap stepB)]) (fun i s => i ≤ l.length) (fun i s => l.length - i) 0 ⟨none, 0⟩ rfl (by repeat (first | exact trivial | refine ⟨rfl, ?_⟩)) (er0 Ent.nil) (by omega) (fun k s hk => ?_)
    have hto := fun h => StN.at hp (i := (k : Int)) ⟨by omega, h⟩
    have hmy := fun h => mayL_at hm (i := (k : Int)) ⟨by omega, h⟩
    have hfl := flatS_take_len hm k
    have hpu : (k : Int) < l.length → (ixd l (k : Int)).push.length ≤ 100000 := fun h => by have := hmy h; unfold mayS at this; split at this <;> omega
    have hft := fun h => flat_take (l := l) (i := k) h
    have hE : ∀ y, (k : Int) < l.length → stepB (stK (ixd l (k : Int))) = y → ((l.map stK).take (k + 1)).flatMap stepB = ((l.map stK).take k).flatMap stepB ++ y := fun y h e => by rw [hft (by omega), e]
    have hop : (k : Int) < l.length → (ixd l (k : Int)).op ≠ 1 → (ixd l (k : Int)).op ≤ 20 ∧ (ixd l (k : Int)).push = [] := fun h h1 => by
      have := hmy h
      unfold mayS at this; rw [if_neg h1] at this
      exact ⟨this.2.1, List.eq_nil_of_length_eq_zero this.2.2⟩
    repeat' (first
     | (refine kO ?_; first | refine gv rfl rfl ?_ | refine gnil ?_ | refine gl rfl (lvb rfl rfl) rfl (fun _ => ?_) | refine gl rfl (lvB rfl rfl rfl) rfl (fun _ => ?_) | refine gl rfl (lve rfl rfl) rfl (fun _ => ?_) | refine gl rfl (lvE rfl rfl rfl) rfl (fun _ => ?_) | refine gl rfl (lva rfl rfl rfl rfl rfl) rfl (fun _ => ?_) | refine gp rfl (by (try simp only [InR]); omega) rfl ?_ | refine gf rfl rfl rfl ?_ | refine gix rfl rfl rfl rfl (by omega) rfl (fun _ => ?_) | refine gixa rfl rfl rfl rfl (by omega) rfl (fun _ => ?_) | (refine kK ?_; first | refine gcall rfl ?_ rfl (fun _ _ => ?_) (fun _ _ => ?_) | refine gcv rfl rfl ?_ rfl (fun _ _ => ?_) (fun _ _ => ?_) | refine gcc1 rfl rfl ?_ rfl (fun _ _ => ?_) (fun _ _ => ?_)) | refine gneq rfl rfl (by kernel_rfl) ?_ rfl ?_ | refine gap rfl rfl rfl (by omega) rfl (fun _ => ?_) (fun _ => ?_) | refine gan rfl rfl rfl (by omega) rfl (fun _ => ?_) (fun _ => ?_) | refine gapz rfl rfl rfl rfl (by omega) rfl (fun _ => ?_) (fun _ => ?_) | refine ganz rfl rfl rfl rfl (by omega) rfl (fun _ => ?_) (fun _ => ?_) | refine gbs RB rfl rfl rfl rfl rfl rfl (fun _ => ?_) (fun _ => ?_) | refine gbb rfl rfl rfl (by first | (simp; done) | (simp only [and_true]; omega)) rfl rfl rfl rfl (fun _ => ?_) (fun _ => ?_) | refine gb rfl rfl rfl rfl ?_ | refine gw rfl rfl ?_)
     | (refine kC ?_; first | refine gseq ?_ | refine greg ?_ | refine gret ?_ | refine gskip ?_ | (refine gcond rfl (fun h => ?_) (fun h => ?_) <;> (first | exact h.elim | (exfalso; omega) | exact absurd h (by assumption) | exact absurd (by assumption) h | skip)) | refine gblk ?_ | refine gexit ?_)
     | (refine kN ?_; first | refine gthen ?_ | refine gnblk ?_)
     | (refine kR ?_; first | refine grs ?_ | refine grb ?_ | refine grl ?_ | refine grc ?_)
     | (refine kX ?_; first | refine gxs ?_ | refine gxb ?_ | refine gxn rfl ?_ | refine gxl ?_ | refine gxc ?_)
     | (refine kR ?_; refine gr rfl (rvT rfl (rvT rfl rv0)) (⟨_, _, _⟩, _) rfl (er Ent.nil) ?_)
     | (refine kR ?_; refine gr rfl (rvT rfl (rvT rfl rv0)) (⟨⟨none, 0⟩, 0, []⟩, _) rfl (er0 Ent.nil) ?_)
     | (refine Pre.mk ?_; first | exact True.intro | omega | ((repeat' (first | refine And.intro ?_ ?_ | exact True.intro | assumption | omega)); done) | (simp only [and_true, true_and, or_true, true_or]; first | done | omega))
     | (refine kD ?_; first | exact dm_none))
    · rename_i s1 _ _ _ s'
      have h1 : (ixd l (k : Int)).op ≠ 1 := by assumption
      have hnil := (hop (by assumption) h1).2
      have e := hE [u8 (127 + (ixd l (k : Int)).op)] (by assumption) (by unfold stepB; rw [if_pos h1])
      have e2 : ((l.map stK).take (k + 1)).flatMap stepB = ((l.map stK).take k).flatMap stepB ++ [u8 (127 + (ixd l (k : Int)).op)] ++ (ixd l (k : Int)).push := by rw [e, hnil, List.append_nil]
      exact gnl2 (k + 1) s' (by rw [e2, List.length_append, List.length_append]; exact (by repeat (first | exact trivial | refine ⟨rfl, ?_⟩))) (by rw [e2, List.length_append, List.length_append]; exact er Ent.nil) (by omega) (by omega)
    · rename_i s1 _ _ _ s'
      have e := hE (u8 (ixd l (k : Int)).push.length :: (ixd l (k : Int)).push) (by assumption) (by unfold stepB; rw [if_neg (not_not_intro (by assumption)), if_pos (by simp only; omega)])
      have e2 : ((l.map stK).take (k + 1)).flatMap stepB = ((l.map stK).take k).flatMap stepB ++ [u8 (ixd l (k : Int)).push.length] ++ (ixd l (k : Int)).push := by rw [e, List.append_assoc]; rfl
      exact gnl2 (k + 1) s' (by rw [e2, List.length_append, List.length_append]; exact (by repeat (first | exact trivial | refine ⟨rfl, ?_⟩))) (by rw [e2, List.length_append, List.length_append]; exact er Ent.nil) (by omega) (by omega)
    · rename_i s1 _ _ _ s'
      have e := hE (128 :: u8 (ixd l (k : Int)).push.length :: u8 (((ixd l (k : Int)).push.length : Int) / 256) :: (ixd l (k : Int)).push) (by assumption) (by unfold stepB; rw [if_neg (not_not_intro (by assumption)), if_neg (by simp only; omega)])
      have e2 : ((l.map stK).take (k + 1)).flatMap stepB = ((l.map stK).take k).flatMap stepB ++ [128, u8 (ixd l (k : Int)).push.length, u8 (((ixd l (k : Int)).push.length : Int) / 256)] ++ (ixd l (k : Int)).push := by rw [e, List.append_assoc]; rfl
      exact gnl2 (k + 1) s' (by rw [e2, List.length_append, List.length_append]; exact (by repeat (first | exact trivial | refine ⟨rfl, ?_⟩))) (by rw [e2, List.length_append, List.length_append]; exact er Ent.nil) (by omega) (by omega)
    · show _ = putSL (l.map stK) ∧ _ = putSE (l.map stK)
      rw [List.take_of_length_le (by omega)]
      exact putSE_ok hm (by omega)
instance c_ref11_Put {lA : Option Addr} {lc ln : Nat} {l : List StG} {w0 : World} {X : Nat → Prop} {L : List Assn} [hl : Rw w0 X L (.slice lA ln lc) RSt l] [q_l : StR w0 X L l] : Ctr Tryd.prog 13 [.slice lA ln lc] w0 X L (StN l) (fun s0 : Sv => .tuple #[.slice s0.A (putSL (l.map stK)).length s0.c, .int .i64 (putSE (l.map stK))]) (fun s0 : Sv => rw_ 5 RB s0 (putSL (l.map stK)).length (putSL (l.map stK)) :: L) (fun s0 : Sv => True) :=
  ctr' (M' := (fun s0 : Sv => [rw_ 5 RB s0 (putSL (l.map stK)).length (putSL (l.map stK))])) (by kernel_rfl) (fun hp w hw => by have el := hl.len hw; subst el; exact ref11_Put _ _ _ w (hl.get w hw) (q_l.get w hw) hp) (by rintro hp ⟨⟨s0, n0, x0⟩, e1⟩ ⟨rfl, rfl⟩ ok; cases ok.row; exact ⟨s0, rfl, rfl, trivial⟩)
theorem ref11_Pushes (lA : Option Addr) (lc : Nat) (l : List StG) (w0 : World) (hl : Slr w0 RSt (.slice lA l.length lc) l) (q_l : StP w0 l) (hp : StN l) :
    Ct Tryd.prog 26 [.slice lA l.length lc] w0 no (fun ((e0) : Bool) => .bool e0) (fun (e0) => []) (fun (e0) => e0 = pushesB (l.map stK)) := by
  have hst := St.start w0
  have i_l := Rw.old hl
  have j_l := StR.old q_l
  refine genter _ hst Tryd.func26 rfl rfl rfl rfl ?_
  have hcap := hl.cap
  repeat' (first
   | (refine kO ?_; first | refine gv rfl rfl ?_ | refine gnil ?_ | refine gl rfl (lvb rfl rfl) rfl (fun _ => ?_) | refine gl rfl (lvB rfl rfl rfl) rfl (fun _ => ?_) | refine gl rfl (lve rfl rfl) rfl (fun _ => ?_) | refine gl rfl (lvE rfl rfl rfl) rfl (fun _ => ?_) | refine gl rfl (lva rfl rfl rfl rfl rfl) rfl (fun _ => ?_) | refine gp rfl (by (try simp only [InR]); omega) rfl ?_ | refine gf rfl rfl rfl ?_ | refine gix rfl rfl rfl rfl (by omega) rfl (fun _ => ?_) | refine gixa rfl rfl rfl rfl (by omega) rfl (fun _ => ?_) | (refine kK ?_; first | refine gcall rfl ?_ rfl (fun _ _ => ?_) (fun _ _ => ?_) | refine gcv rfl rfl ?_ rfl (fun _ _ => ?_) (fun _ _ => ?_) | refine gcc1 rfl rfl ?_ rfl (fun _ _ => ?_) (fun _ _ => ?_)) | refine gneq rfl rfl (by kernel_rfl) ?_ rfl ?_ | refine gw rfl rfl ?_)
   | (refine kC ?_; first | refine gseq ?_ | refine greg ?_ | refine gret ?_ | refine gskip ?_ | (refine gcond rfl (fun h => ?_) (fun h => ?_) <;> (first | exact h.elim | (exfalso; omega) | exact absurd h (by assumption) | exact absurd (by assumption) h | skip)) | refine gblk ?_ | refine gexit ?_)
   | (refine kN ?_; first | refine gthen ?_ | refine gnblk ?_)
   | (refine kR ?_; first | refine grs ?_ | refine grb ?_ | refine grl ?_ | refine grc ?_)
   | (refine kX ?_; first | refine gxs ?_ | refine gxb ?_ | refine gxn rfl ?_ | refine gxl ?_ | refine gxc ?_)
   | (refine kR ?_; refine gr rfl (rvT rfl rv0) (_) rfl Ent.nil ?_)
   | (refine Pre.mk ?_; first | exact True.intro | omega | ((repeat' (first | refine And.intro ?_ ?_ | exact True.intro | assumption | omega)); done) | (simp only [and_true, true_and, or_true, true_or]; first | done | omega))
   | (refine kD ?_; first | exact dm_none))
  refine gloopc [0] (fun (i : Nat) K => (3, .int .i64 i) :: K) (fun i => i ≤ l.length ∧ ∀ j : Nat, j < i → (ixd l (j : Int)).op = 1) (fun i => l.length - i) 0 rfl (by repeat (first | exact trivial | refine ⟨rfl, ?_⟩)) (by simp) (fun i hi => ?_)
  have hto := fun h => StN.at hp (i := (i : Int)) ⟨by omega, h⟩
  repeat' (first
   | (refine kO ?_; first | refine gv rfl rfl ?_ | refine gnil ?_ | refine gl rfl (lvb rfl rfl) rfl (fun _ => ?_) | refine gl rfl (lvB rfl rfl rfl) rfl (fun _ => ?_) | refine gl rfl (lve rfl rfl) rfl (fun _ => ?_) | refine gl rfl (lvE rfl rfl rfl) rfl (fun _ => ?_) | refine gl rfl (lva rfl rfl rfl rfl rfl) rfl (fun _ => ?_) | refine gp rfl (by (try simp only [InR]); omega) rfl ?_ | refine gf rfl rfl rfl ?_ | refine gix rfl rfl rfl rfl (by omega) rfl (fun _ => ?_) | refine gixa rfl rfl rfl rfl (by omega) rfl (fun _ => ?_) | (refine kK ?_; first | refine gcall rfl ?_ rfl (fun _ _ => ?_) (fun _ _ => ?_) | refine gcv rfl rfl ?_ rfl (fun _ _ => ?_) (fun _ _ => ?_) | refine gcc1 rfl rfl ?_ rfl (fun _ _ => ?_) (fun _ _ => ?_)) | refine gneq rfl rfl (by kernel_rfl) ?_ rfl ?_ | refine gw rfl rfl ?_)
   | (refine kC ?_; first | refine gseq ?_ | refine greg ?_ | refine gret ?_ | refine gskip ?_ | (refine gcond rfl (fun h => ?_) (fun h => ?_) <;> (first | exact h.elim | (exfalso; omega) | exact absurd h (by assumption) | exact absurd (by assumption) h | skip)) | refine gblk ?_ | refine gexit ?_)
   | (refine kN ?_; first | refine gthen ?_ | refine gnblk ?_)
   | (refine kR ?_; first | refine grs ?_ | refine grb ?_ | refine grl ?_ | refine grc ?_)
   | (refine kX ?_; first | refine gxs ?_ | refine gxb ?_ | refine gxn rfl ?_ | refine gxl ?_ | refine gxc ?_)
   | (refine kR ?_; refine gr rfl (rvT rfl rv0) (_) rfl Ent.nil ?_)
   | (refine Pre.mk ?_; first | exact True.intro | omega | ((repeat' (first | refine And.intro ?_ ?_ | exact True.intro | assumption | omega)); done) | (simp only [and_true, true_and, or_true, true_or]; first | done | omega))
   | (refine kD ?_; first | exact dm_none))
  · have hi1 : (i : Int) < l.length := by assumption
    refine (Bool.eq_false_iff.2 fun hc => h ?_).symm
    unfold pushesB at hc
    have := List.all_eq_true.1 hc (stK (ixd l (i : Int))) (List.mem_map.2 ⟨_, by rw [ixd_eq (by omega)]; exact List.getElem_mem _, rfl⟩)
    simpa using this
  · refine gnl (i + 1) (by repeat (first | exact trivial | refine ⟨rfl, ?_⟩)) (Ent.refl _) ⟨by omega, fun j hj => ?_⟩ (by omega)
    by_cases e : j = i
    · subst e; exact h
    · exact hi.2 j (by omega)
  · refine (List.all_eq_true.2 fun x hx => ?_).symm
    obtain ⟨g, hg, rfl⟩ := List.mem_map.1 hx
    obtain ⟨j, hj, rfl⟩ := List.mem_iff_getElem.1 hg
    have := hi.2 j (by omega)
    rw [ixd_eq (by omega)] at this
    simpa using this
instance c_ref11_Pushes {lA : Option Addr} {lc ln : Nat} {l : List StG} {w0 : World} {X : Nat → Prop} {L : List Assn} [hl : Rw w0 X L (.slice lA ln lc) RSt l] [q_l : StR w0 X L l] : Ctr Tryd.prog 26 [.slice lA ln lc] w0 X L (StN l) (fun _ : Unit => .bool (pushesB (l.map stK))) (fun _ : Unit => L) (fun _ : Unit => True) :=
  ctr' (M' := (fun _ : Unit => [])) (by kernel_rfl) (fun hp w hw => by have el := hl.len hw; subst el; exact ref11_Pushes _ _ _ w (hl.get w hw) (q_l.get w hw) hp) (by rintro hp e0 rfl ok; exact ⟨(), rfl, rfl, trivial⟩)
end Go.Proofs.YtkjpemkankefnaaDoor
