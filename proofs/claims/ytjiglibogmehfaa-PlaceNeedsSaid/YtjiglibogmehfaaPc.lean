/-
  Places: which tree; whether a place stands; looking for one.
-/
import Derived.Test.YtjiglibogmehfaaPb
import Derived.Test.YtjiglibogmehfaaNh
set_option linter.all false
set_option maxRecDepth 100000
namespace Go.Proofs.Ytjiglibogmehfaa
open Go.RowKit

def idxG (q : PlG → Bool) : List PlG → Int → Int
  | [], _ => -1
  | p :: r, k => if q p = true then k else idxG q r (k + 1)
theorem idxG_b (q : PlG → Bool) : ∀ (l : List PlG) (k : Int), idxG q l k = -1 ∨ k ≤ idxG q l k ∧ idxG q l k < k + l.length
  | [], k => .inl rfl
  | p :: r, k => by
    unfold idxG
    split
    · right; simp; omega
    · rcases idxG_b q r (k + 1) with h | h
      · exact .inl h
      · right; simp only [List.length_cons]; omega
theorem idxG_mem {q : PlG → Bool} : ∀ {l : List PlG} {k : Int}, 0 ≤ k → (0 ≤ idxG q l k ↔ ∃ p ∈ l, q p = true)
  | [], k, h => by simp [idxG]
  | p :: r, k, h => by
    unfold idxG
    split
    · rename_i h1; exact ⟨fun _ => ⟨p, by simp, h1⟩, fun _ => h⟩
    · rename_i h1
      rw [idxG_mem (by omega)]; simp [h1]
def treeQ (leaf : Int) (p : PlG) : Bool := decide (leaf / 2 ^ p.row.toNat = p.at_)
def Pls (l : List PlG) : Prop := ∀ p ∈ l, PlOk p
def Pls20 (l : List PlG) : Prop := ∀ p ∈ l, 0 ≤ p.row ∧ p.row ≤ 20 ∧ 0 ≤ p.at_ ∧ p.at_ ≤ 1048576
theorem pl_tree1 (leaf : Int) (r : Int) (a : Int) (g : Nat) (w0 : World) (hg : Pr w0 g [.one (.int .u64 leaf)]) (hp : 0 ≤ r ∧ r ≤ 64 ∧ 0 ≤ a ∧ a ≤ 18446744073709551615 ∧ 0 ≤ leaf) :
    Ct Try.prog 36 [Ag [.one (.int .u8 r), .one (.int .u64 a)], .pointer (some ⟨g, 0, none⟩)] w0 no (fun ((e0) : Bool) => .bool e0) (fun (e0) => []) (fun (e0) => e0 = treeQ leaf ⟨r, a⟩) := by
  have hst := St.start w0
  have i_g := Rp.old hg
  refine genter _ hst Try.func36 rfl rfl rfl rfl ?_
  repeat' (first
   | (refine kO ?_; first | refine gv rfl rfl ?_ | refine gnil ?_ | refine gl rfl (lvb rfl rfl) rfl (fun _ => ?_) | refine gl rfl (lvB rfl rfl rfl) rfl (fun _ => ?_) | refine gl rfl (lve rfl rfl) rfl (fun _ => ?_) | refine gl rfl (lvE rfl rfl rfl) rfl (fun _ => ?_) | refine gl rfl (lva rfl rfl rfl rfl rfl) rfl (fun _ => ?_) | refine gl rfl (lvp rfl rfl) rfl (fun _ => ?_) | refine gl rfl (lvP rfl rfl rfl) rfl (fun _ => ?_) | refine gp rfl (by (try simp only [InR]); omega) rfl ?_ | refine gsh rfl (by (try simp only [InR]); omega) rfl ?_ | refine gsv rfl (by (try simp only [InR, InSh]); omega) rfl ?_ | refine gf rfl rfl rfl ?_ | refine geql rfl rfl (by kernel_rfl) ?_ rfl ?_ | refine gx rfl rfl (fun _ => ?_) (fun _ => ?_))
   | (refine kC ?_; first | refine gseq ?_ | refine greg ?_ | refine gret ?_ | refine gskip ?_)
   | (refine kN ?_; first | refine gthen ?_)
   | (refine kR ?_; first | refine grs ?_ | refine grc ?_)
   | (refine kR ?_; refine gr rfl (rvT rfl rv0) (_) rfl Ent.nil ?_)
   | (refine Pre.mk ?_; first | exact True.intro | omega | ((repeat' (first | refine And.intro ?_ ?_ | exact True.intro | assumption | omega)); done) | (simp only [and_true, true_and, or_true, true_or]; first | done | omega))
   | (refine kD ?_; first | exact dm_none))
  all_goals rfl
instance c_pl_tree1 {leaf : Int} {r : Int} {a : Int} {g : Nat} {w0 : World} {X : Nat → Prop} {L : List Assn} [hg : Rp w0 X L g [.one (.int .u64 leaf)]] : Ctr Try.prog 36 [Ag [.one (.int .u8 r), .one (.int .u64 a)], .pointer (some ⟨g, 0, none⟩)] w0 X L (0 ≤ r ∧ r ≤ 64 ∧ 0 ≤ a ∧ a ≤ 18446744073709551615 ∧ 0 ≤ leaf) (fun _ : Unit => .bool (treeQ leaf ⟨r, a⟩)) (fun _ : Unit => L) (fun _ : Unit => True) :=
  ctr' (M' := (fun _ : Unit => [])) (by kernel_rfl) (fun hp w hw => by exact pl_tree1 _ _ _ _ w (hg.get w hw) hp) (by rintro hp e0 rfl ok; exact ⟨(), rfl, rfl, trivial⟩)
theorem Pls.at {l : List PlG} (h : Pls l) {i : Int} (hi : 0 ≤ i ∧ i < l.length) : PlOk (ixd l i) := by
  rw [ixd_eq (by omega)]; exact h _ (List.getElem_mem _)
theorem Pls20.at {l : List PlG} (h : Pls20 l) {i : Int} (hi : 0 ≤ i ∧ i < l.length) : 0 ≤ (ixd l i).row ∧ (ixd l i).row ≤ 20 ∧ 0 ≤ (ixd l i).at_ ∧ (ixd l i).at_ ≤ 1048576 := by
  rw [ixd_eq (by omega)]; exact h _ (List.getElem_mem _)
theorem pl_indexF (leaf : Int) (lA : Option Addr) (lc : Nat) (l : List PlG) (f : Nat) (w0 : World) (hl : Slr w0 RPl (.slice lA l.length lc) l) (hf : Pr w0 f [.one (.int .u64 leaf)]) (hp : Pls20 l ∧ 0 ≤ leaf) :
    Ct Try.prog 35 [.slice lA l.length lc, .func (.func 36) #[] #[.pointer (some ⟨f, 0, none⟩)]] w0 no (fun ((e0) : Int) => .int .i64 e0) (fun (e0) => []) (fun (e0) => e0 = idxG (treeQ leaf) l 0) := by
  have hst := St.start w0
  have i_l := Rw.old hl
  have i_f := Rp.old hf
  refine genter _ hst Try.func35 rfl rfl rfl rfl ?_
  have hcap := hl.cap
  repeat' (first
   | (refine kO ?_; first | refine gv rfl rfl ?_ | refine gnil ?_ | refine gl rfl (lvb rfl rfl) rfl (fun _ => ?_) | refine gl rfl (lvB rfl rfl rfl) rfl (fun _ => ?_) | refine gl rfl (lve rfl rfl) rfl (fun _ => ?_) | refine gl rfl (lvE rfl rfl rfl) rfl (fun _ => ?_) | refine gl rfl (lva rfl rfl rfl rfl rfl) rfl (fun _ => ?_) | refine gl rfl (lvp rfl rfl) rfl (fun _ => ?_) | refine gl rfl (lvP rfl rfl rfl) rfl (fun _ => ?_) | refine gp rfl (by (try simp only [InR]); omega) rfl ?_ | refine gix rfl rfl rfl rfl (by omega) rfl (fun _ => ?_) | refine gixa rfl rfl rfl rfl (by omega) rfl (fun _ => ?_) | (refine kK ?_; first | refine gcall rfl ?_ rfl (fun _ _ => ?_) (fun _ _ => ?_) | refine gcv rfl rfl ?_ rfl (fun _ _ => ?_) (fun _ _ => ?_) | refine gcc1 rfl rfl ?_ rfl (fun _ _ => ?_) (fun _ _ => ?_)) | refine gw rfl rfl ?_)
   | (refine kC ?_; first | refine gseq ?_ | refine greg ?_ | refine gret ?_ | refine gskip ?_ | (refine gcond rfl (fun h => ?_) (fun h => ?_) <;> (first | exact h.elim | (exfalso; omega) | exact absurd h (by assumption) | exact absurd (by assumption) h | skip)) | refine gblk ?_ | refine gexit ?_)
   | (refine kN ?_; first | refine gthen ?_ | refine gnblk ?_)
   | (refine kR ?_; first | refine grs ?_ | refine grb ?_ | refine grl ?_ | refine grc ?_)
   | (refine kX ?_; first | refine gxs ?_ | refine gxb ?_ | refine gxn rfl ?_ | refine gxl ?_ | refine gxc ?_)
   | (refine kR ?_; refine gr rfl (rvT rfl rv0) (_) rfl Ent.nil ?_)
   | (refine Pre.mk ?_; first | exact True.intro | omega | ((repeat' (first | refine And.intro ?_ ?_ | exact True.intro | assumption | omega)); done) | (simp only [and_true, true_and, or_true, true_or]; first | done | omega))
   | (refine kD ?_; first | exact dm_none))
  refine gloopc [0, 1, 7] (fun (i : Nat) K => (8, .int .i64 i) :: K) (fun i => i ≤ l.length ∧ idxG (treeQ leaf) l 0 = idxG (treeQ leaf) (l.drop i) i) (fun i => l.length - i) 0 rfl (by repeat (first | exact trivial | refine ⟨rfl, ?_⟩)) (by simp) (fun i hi => ?_)
  have hb := fun h => hp.1.at (i := (i : Int)) ⟨by omega, h⟩
  repeat' (first
   | (refine kO ?_; first | refine gv rfl rfl ?_ | refine gnil ?_ | refine gl rfl (lvb rfl rfl) rfl (fun _ => ?_) | refine gl rfl (lvB rfl rfl rfl) rfl (fun _ => ?_) | refine gl rfl (lve rfl rfl) rfl (fun _ => ?_) | refine gl rfl (lvE rfl rfl rfl) rfl (fun _ => ?_) | refine gl rfl (lva rfl rfl rfl rfl rfl) rfl (fun _ => ?_) | refine gl rfl (lvp rfl rfl) rfl (fun _ => ?_) | refine gl rfl (lvP rfl rfl rfl) rfl (fun _ => ?_) | refine gp rfl (by (try simp only [InR]); omega) rfl ?_ | refine gix rfl rfl rfl rfl (by omega) rfl (fun _ => ?_) | refine gixa rfl rfl rfl rfl (by omega) rfl (fun _ => ?_) | (refine kK ?_; first | refine gcall rfl ?_ rfl (fun _ _ => ?_) (fun _ _ => ?_) | refine gcv rfl rfl ?_ rfl (fun _ _ => ?_) (fun _ _ => ?_) | refine gcc1 rfl rfl ?_ rfl (fun _ _ => ?_) (fun _ _ => ?_)) | refine gw rfl rfl ?_)
   | (refine kC ?_; first | refine gseq ?_ | refine greg ?_ | refine gret ?_ | refine gskip ?_ | (refine gcond rfl (fun h => ?_) (fun h => ?_) <;> (first | exact h.elim | (exfalso; omega) | exact absurd h (by assumption) | exact absurd (by assumption) h | skip)) | refine gblk ?_ | refine gexit ?_)
   | (refine kN ?_; first | refine gthen ?_ | refine gnblk ?_)
   | (refine kR ?_; first | refine grs ?_ | refine grb ?_ | refine grl ?_ | refine grc ?_)
   | (refine kX ?_; first | refine gxs ?_ | refine gxb ?_ | refine gxn rfl ?_ | refine gxl ?_ | refine gxc ?_)
   | (refine kR ?_; refine gr rfl (rvT rfl rv0) (_) rfl Ent.nil ?_)
   | exact Pre.mk (by have := hb (by assumption); omega)
   | (refine Pre.mk ?_; first | exact True.intro | omega | ((repeat' (first | refine And.intro ?_ ?_ | exact True.intro | assumption | omega)); done) | (simp only [and_true, true_and, or_true, true_or]; first | done | omega))
   | (refine kD ?_; first | exact dm_none))
  · rw [hi.2, drop_ixd (by omega), idxG, if_pos h]
  · refine gnl (i + 1) (by repeat (first | exact trivial | refine ⟨rfl, ?_⟩)) (Ent.refl _) ⟨by omega, ?_⟩ (by omega)
    rw [hi.2, drop_ixd (by omega), idxG, if_neg (by rw [h]; decide)]; rfl
  · rw [hi.2, List.drop_eq_nil_of_le (by omega)]; rfl
instance c_pl_indexF {leaf : Int} {lA : Option Addr} {lc ln : Nat} {l : List PlG} {f : Nat} {w0 : World} {X : Nat → Prop} {L : List Assn} [hl : Rw w0 X L (.slice lA ln lc) RPl l] [hf : Rp w0 X L f [.one (.int .u64 leaf)]] : Ctr Try.prog 35 [.slice lA ln lc, .func (.func 36) #[] #[.pointer (some ⟨f, 0, none⟩)]] w0 X L (Pls20 l ∧ 0 ≤ leaf) (fun _ : Unit => .int .i64 (idxG (treeQ leaf) l 0)) (fun _ : Unit => L) (fun _ : Unit => True) :=
  ctr' (M' := (fun _ : Unit => [])) (by kernel_rfl) (fun hp w hw => by have el := hl.len hw; subst el; exact pl_indexF _ _ _ _ _ w (hl.get w hw) (hf.get w hw) hp) (by rintro hp e0 rfl ok; exact ⟨(), rfl, rfl, trivial⟩)
theorem pl_index (lA : Option Addr) (lc : Nat) (l : List PlG) (r : Int) (a : Int) (w0 : World) (hl : Slr w0 RPl (.slice lA l.length lc) l) (hp : Pls l ∧ (0 ≤ r ∧ r ≤ 255 ∧ 0 ≤ a ∧ a ≤ 18446744073709551615)) :
    Ct Try.prog 42 [.slice lA l.length lc, Ag [.one (.int .u8 r), .one (.int .u64 a)]] w0 no (fun ((e0) : Int) => .int .i64 e0) (fun (e0) => []) (fun (e0) => e0 = idxG (fun p => decide (p = ⟨r, a⟩)) l 0) := by
  have hst := St.start w0
  have i_l := Rw.old hl
  refine genter _ hst Try.func42 rfl rfl rfl rfl ?_
  have hcap := hl.cap
  repeat' (first
   | (refine kO ?_; first | refine gv rfl rfl ?_ | refine gnil ?_ | refine gnilD ?_ | refine gl rfl (lvb rfl rfl) rfl (fun _ => ?_) | refine gl rfl (lvB rfl rfl rfl) rfl (fun _ => ?_) | refine gl rfl (lve rfl rfl) rfl (fun _ => ?_) | refine gl rfl (lvE rfl rfl rfl) rfl (fun _ => ?_) | refine gl rfl (lva rfl rfl rfl rfl rfl) rfl (fun _ => ?_) | refine gp rfl (by (try simp only [InR]); omega) rfl ?_ | refine gix rfl rfl rfl rfl (by omega) rfl (fun _ => ?_) | refine gixa rfl rfl rfl rfl (by omega) rfl (fun _ => ?_) | (refine kK ?_; first | refine gcall rfl ?_ rfl (fun _ _ => ?_) (fun _ _ => ?_) | refine gcv rfl rfl ?_ rfl (fun _ _ => ?_) (fun _ _ => ?_) | refine gcc1 rfl rfl ?_ rfl (fun _ _ => ?_) (fun _ _ => ?_)) | refine geql rfl rfl (by kernel_rfl) ?_ rfl ?_ | refine gx rfl rfl (fun _ => ?_) (fun _ => ?_) | refine gw rfl rfl ?_)
   | (refine kC ?_; first | refine gseq ?_ | refine greg ?_ | refine gret ?_ | refine gskip ?_ | refine gdraw (id := 4) [0,1,2,3,4,5] (by kernel_rfl) (by kernel_rfl) rfl ?_ | (refine gcond rfl (fun h => ?_) (fun h => ?_) <;> (first | exact h.elim | (exfalso; omega) | exact absurd h (by assumption) | exact absurd (by assumption) h | skip)) | refine gblk ?_ | refine gexit ?_)
   | (refine kN ?_; first | refine gthen ?_ | refine gnblk ?_)
   | (refine kR ?_; first | refine grs ?_ | refine grb ?_ | refine grl ?_ | refine grc ?_)
   | (refine kX ?_; first | refine gxs ?_ | refine gxb ?_ | refine gxn rfl ?_ | refine gxl ?_ | refine gxc ?_)
   | (refine kR ?_; refine gr rfl (rvT rfl rv0) (_) rfl Ent.nil ?_)
   | (refine Pre.mk ?_; first | exact True.intro | omega | ((repeat' (first | refine And.intro ?_ ?_ | exact True.intro | assumption | omega)); done) | (simp only [and_true, true_and, or_true, true_or]; first | done | omega))
   | (refine kD ?_; first | exact dm_none | exact dm0 | refine dmOff rfl ?_ | refine dmOn (lvb rfl rfl) ?_ | refine dmOn (lvB rfl rfl rfl) ?_ | refine dmOn (lve rfl rfl) ?_ | refine dmOn (lvE rfl rfl rfl) ?_ | refine dmOn (lva rfl rfl rfl rfl rfl) ?_))
  refine gloopc [0, 3, 7] (fun (i : Nat) K => (8, .int .i64 i) :: K) (fun i => i ≤ l.length ∧ idxG (fun p => decide (p = ⟨r, a⟩)) l 0 = idxG (fun p => decide (p = ⟨r, a⟩)) (l.drop i) i) (fun i => l.length - i) 0 rfl (by repeat (first | exact trivial | refine ⟨rfl, ?_⟩)) (by simp) (fun i hi => ?_)
  have hb := fun h => hp.1.at (i := (i : Int)) ⟨by omega, h⟩
  repeat' (first
   | (refine kO ?_; first | refine gv rfl rfl ?_ | refine gnil ?_ | refine gnilD ?_ | refine gl rfl (lvb rfl rfl) rfl (fun _ => ?_) | refine gl rfl (lvB rfl rfl rfl) rfl (fun _ => ?_) | refine gl rfl (lve rfl rfl) rfl (fun _ => ?_) | refine gl rfl (lvE rfl rfl rfl) rfl (fun _ => ?_) | refine gl rfl (lva rfl rfl rfl rfl rfl) rfl (fun _ => ?_) | refine gp rfl (by (try simp only [InR]); omega) rfl ?_ | refine gix rfl rfl rfl rfl (by omega) rfl (fun _ => ?_) | refine gixa rfl rfl rfl rfl (by omega) rfl (fun _ => ?_) | (refine kK ?_; first | refine gcall rfl ?_ rfl (fun _ _ => ?_) (fun _ _ => ?_) | refine gcv rfl rfl ?_ rfl (fun _ _ => ?_) (fun _ _ => ?_) | refine gcc1 rfl rfl ?_ rfl (fun _ _ => ?_) (fun _ _ => ?_)) | refine geql rfl rfl (by kernel_rfl) ?_ rfl ?_ | refine gx rfl rfl (fun _ => ?_) (fun _ => ?_) | refine gw rfl rfl ?_)
   | (refine kC ?_; first | refine gseq ?_ | refine greg ?_ | refine gret ?_ | refine gskip ?_ | refine gdraw (id := 4) [0,1,2,3,4,5] (by kernel_rfl) (by kernel_rfl) rfl ?_ | (refine gcond rfl (fun h => ?_) (fun h => ?_) <;> (first | exact h.elim | (exfalso; omega) | exact absurd h (by assumption) | exact absurd (by assumption) h | skip)) | refine gblk ?_ | refine gexit ?_)
   | (refine kN ?_; first | refine gthen ?_ | refine gnblk ?_)
   | (refine kR ?_; first | refine grs ?_ | refine grb ?_ | refine grl ?_ | refine grc ?_)
   | (refine kX ?_; first | refine gxs ?_ | refine gxb ?_ | refine gxn rfl ?_ | refine gxl ?_ | refine gxc ?_)
   | (refine kR ?_; refine gr rfl (rvT rfl rv0) (_) rfl Ent.nil ?_)
   | exact Pre.mk ⟨hp.2, hb (by assumption)⟩
   | (refine Pre.mk ?_; first | exact True.intro | omega | ((repeat' (first | refine And.intro ?_ ?_ | exact True.intro | assumption | omega)); done) | (simp only [and_true, true_and, or_true, true_or]; first | done | omega))
   | (refine kD ?_; first | exact dm_none | exact dm0 | refine dmOff rfl ?_ | refine dmOn (lvb rfl rfl) ?_ | refine dmOn (lvB rfl rfl rfl) ?_ | refine dmOn (lve rfl rfl) ?_ | refine dmOn (lvE rfl rfl rfl) ?_ | refine dmOn (lva rfl rfl rfl rfl rfl) ?_))
  · rw [hi.2, drop_ixd (by omega), idxG, if_pos (by simp [h.1, h.2.1])]
  · refine gnl (i + 1) (by repeat (first | exact trivial | refine ⟨rfl, ?_⟩)) (Ent.refl _) ⟨by omega, ?_⟩ (by omega)
    rw [hi.2, drop_ixd (by omega), idxG, if_neg (fun e => h (by have e := of_decide_eq_true e; rw [e]; simp))]; rfl
  · rw [hi.2, List.drop_eq_nil_of_le (by omega)]; rfl
instance c_pl_index {lA : Option Addr} {lc ln : Nat} {l : List PlG} {r : Int} {a : Int} {w0 : World} {X : Nat → Prop} {L : List Assn} [hl : Rw w0 X L (.slice lA ln lc) RPl l] : Ctr Try.prog 42 [.slice lA ln lc, Ag [.one (.int .u8 r), .one (.int .u64 a)]] w0 X L (Pls l ∧ (0 ≤ r ∧ r ≤ 255 ∧ 0 ≤ a ∧ a ≤ 18446744073709551615)) (fun _ : Unit => .int .i64 (idxG (fun p => decide (p = ⟨r, a⟩)) l 0)) (fun _ : Unit => L) (fun _ : Unit => True) :=
  ctr' (M' := (fun _ : Unit => [])) (by kernel_rfl) (fun hp w hw => by have el := hl.len hw; subst el; exact pl_index _ _ _ _ _ w (hl.get w hw) hp) (by rintro hp e0 rfl ok; exact ⟨(), rfl, rfl, trivial⟩)
theorem pl_contains (lA : Option Addr) (lc : Nat) (l : List PlG) (r : Int) (a : Int) (w0 : World) (hl : Slr w0 RPl (.slice lA l.length lc) l) (hp : Pls l ∧ (0 ≤ r ∧ r ≤ 255 ∧ 0 ≤ a ∧ a ≤ 18446744073709551615)) :
    Ct Try.prog 34 [.slice lA l.length lc, Ag [.one (.int .u8 r), .one (.int .u64 a)]] w0 no (fun ((e0) : Bool) => .bool e0) (fun (e0) => []) (fun (e0) => e0 = decide ((⟨r, a⟩ : PlG) ∈ l)) := by
  have hst := St.start w0
  have i_l := Rw.old hl
  refine genter _ hst Try.func34 rfl rfl rfl rfl ?_
  have hcap := hl.cap
  repeat' (first
   | (refine kO ?_; first | refine gv rfl rfl ?_ | refine gnil ?_ | refine gl rfl (lvb rfl rfl) rfl (fun _ => ?_) | refine gl rfl (lvB rfl rfl rfl) rfl (fun _ => ?_) | refine gl rfl (lve rfl rfl) rfl (fun _ => ?_) | refine gl rfl (lvE rfl rfl rfl) rfl (fun _ => ?_) | refine gl rfl (lva rfl rfl rfl rfl rfl) rfl (fun _ => ?_) | refine gp rfl (by (try simp only [InR]); omega) rfl ?_ | (refine kK ?_; first | refine gcall rfl ?_ rfl (fun _ _ => ?_) (fun _ _ => ?_) | refine gcv rfl rfl ?_ rfl (fun _ _ => ?_) (fun _ _ => ?_) | refine gcc1 rfl rfl ?_ rfl (fun _ _ => ?_) (fun _ _ => ?_)) | refine gx rfl rfl (fun _ => ?_) (fun _ => ?_))
   | (refine kC ?_; first | refine gseq ?_ | refine greg ?_ | refine gret ?_ | refine gskip ?_)
   | (refine kN ?_; first | refine gthen ?_)
   | (refine kR ?_; first | refine grs ?_ | refine grc ?_)
   | (refine kR ?_; refine gr rfl (rvT rfl rv0) (_) rfl Ent.nil ?_)
   | (refine Pre.mk ?_; first | exact True.intro | omega | ((repeat' (first | refine And.intro ?_ ?_ | exact True.intro | assumption | omega)); done) | (simp only [and_true, true_and, or_true, true_or]; first | done | omega))
   | (refine kD ?_; first | exact dm_none))
  all_goals (show decide _ = decide _; rw [decide_eq_decide, idxG_mem (Int.le_refl 0)]; simp)
instance c_pl_contains {lA : Option Addr} {lc ln : Nat} {l : List PlG} {r : Int} {a : Int} {w0 : World} {X : Nat → Prop} {L : List Assn} [hl : Rw w0 X L (.slice lA ln lc) RPl l] : Ctr Try.prog 34 [.slice lA ln lc, Ag [.one (.int .u8 r), .one (.int .u64 a)]] w0 X L (Pls l ∧ (0 ≤ r ∧ r ≤ 255 ∧ 0 ≤ a ∧ a ≤ 18446744073709551615)) (fun _ : Unit => .bool (decide ((⟨r, a⟩ : PlG) ∈ l))) (fun _ : Unit => L) (fun _ : Unit => True) :=
  ctr' (M' := (fun _ : Unit => [])) (by kernel_rfl) (fun hp w hw => by have el := hl.len hw; subst el; exact pl_contains _ _ _ _ _ w (hl.get w hw) hp) (by rintro hp e0 rfl ok; exact ⟨(), rfl, rfl, trivial⟩)
theorem trees_ok : ∀ (n f : Nat), f + n ≤ 1048576 → Pls20 (trees f n) := by
  intro n
  induction n using Nat.strongRecOn with
  | _ n ih =>
    intro f hf p hp
    by_cases h0 : n = 0
    · subst h0; rw [trees_zero] at hp; cases hp
    · rw [trees_step h0] at hp
      have hl := (Nat.log2_eq_iff h0).1 rfl
      have hpos := Nat.two_pow_pos (Nat.log2 n)
      rcases List.mem_cons.1 hp with rfl | hp
      · have h1 : Nat.log2 n < 21 := (Nat.log2_lt h0).2 (by omega)
        have h2 : f / 2 ^ Nat.log2 n ≤ f := Nat.div_le_self _ _
        exact ⟨Int.natCast_nonneg _, by show ((Nat.log2 n : Nat) : Int) ≤ 20; omega, Int.natCast_nonneg _, by show ((f / 2 ^ Nat.log2 n : Nat) : Int) ≤ 1048576; omega⟩
      · exact ih (n - 2 ^ Nat.log2 n) (by omega) _ (by omega) p hp
theorem treesN_ok (n : Int) : Pls20 (treesN n) := by
  unfold treesN
  split
  · exact trees_ok _ _ (by omega)
  · intro p hp; cases hp
def treeI (n leaf : Int) : Int := idxG (treeQ leaf) (treesN n) 0
def treeB (n leaf : Int) : Bool := decide (0 ≤ treeI n leaf)
def treeP (n leaf : Int) : PlG := if treeI n leaf < 0 then ⟨0, 0⟩ else ixd (treesN n) (treeI n leaf)
theorem treeI_b (n leaf : Int) : treeI n leaf = -1 ∨ 0 ≤ treeI n leaf ∧ treeI n leaf < (treesN n).length := by
  have := idxG_b (treeQ leaf) (treesN n) 0
  unfold treeI; omega
theorem treeP_ok (n leaf : Int) : 0 ≤ (treeP n leaf).row ∧ (treeP n leaf).row ≤ 20 ∧ 0 ≤ (treeP n leaf).at_ ∧ (treeP n leaf).at_ ≤ 1048576 := by
  unfold treeP
  split
  · exact ⟨by simp, by simp, by simp, by simp⟩
  · exact (treesN_ok n).at (by have := treeI_b n leaf; omega)
theorem pl_tree (n : Int) (leaf : Int) (w0 : World)  (hp : 0 ≤ n ∧ 0 ≤ leaf) :
    Ct Try.prog 14 [.int .u64 n, .int .u64 leaf] w0 no (fun ((e0, e1, e2) : Int × Int × Bool) => .tuple #[Ag [.one (.int .u8 e0), .one (.int .u64 e1)], .bool e2]) (fun (e0, e1, e2) => []) (fun (e0, e1, e2) => e0 = (treeP n leaf).row ∧ e1 = (treeP n leaf).at_ ∧ e2 = treeB n leaf) := by
  have hst := St.start w0
  refine genter _ hst Try.func14 rfl rfl rfl rfl ?_
  have hb := treeI_b n leaf
  unfold treeI at hb
  repeat' (first
   | (refine kO ?_; first | refine gv rfl rfl ?_ | refine gnil ?_ | refine gl rfl (lvb rfl rfl) rfl (fun _ => ?_) | refine gl rfl (lvB rfl rfl rfl) rfl (fun _ => ?_) | refine gl rfl (lve rfl rfl) rfl (fun _ => ?_) | refine gl rfl (lvE rfl rfl rfl) rfl (fun _ => ?_) | refine gl rfl (lva rfl rfl rfl rfl rfl) rfl (fun _ => ?_) | refine gl rfl (lvp rfl rfl) rfl (fun _ => ?_) | refine gl rfl (lvP rfl rfl rfl) rfl (fun _ => ?_) | refine gp rfl (by (try simp only [InR]); omega) rfl ?_ | refine gix rfl rfl rfl rfl (by omega) rfl (fun _ => ?_) | refine gixa rfl rfl rfl rfl (by omega) rfl (fun _ => ?_) | (refine kK ?_; first | refine gcall rfl ?_ rfl (fun _ _ => ?_) (fun _ _ => ?_) | refine gcv rfl rfl ?_ rfl (fun _ _ => ?_) (fun _ _ => ?_) | refine gcc1 rfl rfl ?_ rfl (fun _ _ => ?_) (fun _ _ => ?_)) | refine gbu rfl rfl rfl rfl rfl ?_ | refine gx rfl rfl (fun _ => ?_) (fun _ => ?_) | refine ga rfl (fun _ => ?_) (fun _ => ?_) | refine gst rfl rfl rfl rfl ?_ ?_ | refine ge rfl rfl rfl rfl ?_ ?_ | refine gea rfl rfl rfl rfl rfl rfl rfl ?_ ?_ | refine gmf rfl rfl ?_ ?_)
   | (refine kC ?_; first | refine gseq ?_ | refine greg ?_ | refine gret ?_ | refine gskip ?_ | (refine gcond rfl (fun h => ?_) (fun h => ?_) <;> (first | exact h.elim | (exfalso; omega) | exact absurd h (by assumption) | exact absurd (by assumption) h | skip)))
   | (refine kN ?_; first | refine gthen ?_)
   | (refine kR ?_; first | refine grs ?_ | refine grc ?_)
   | (refine kR ?_; refine gr rfl (rvC rfl (lvb rfl rfl) (rvT rfl rv0)) (_, _, _) rfl Ent.nil ?_)
   | (refine kR ?_; refine gr rfl (rvC rfl (lvB rfl rfl rfl) (rvT rfl rv0)) (_, _, _) rfl Ent.nil ?_)
   | exact Pre.mk ⟨treesN_ok n, hp.2⟩
   | (refine Pre.mk ?_; first | exact True.intro | omega | ((repeat' (first | refine And.intro ?_ ?_ | exact True.intro | assumption | omega)); done) | (simp only [and_true, true_and, or_true, true_or]; first | done | omega))
   | (refine kD ?_; first | exact dm_none))
  · have e : treeP n leaf = ⟨0, 0⟩ := if_pos h
    rw [e]; exact ⟨rfl, rfl, (decide_eq_false (by unfold treeI; omega)).symm⟩
  · have e : treeP n leaf = ixd (treesN n) (treeI n leaf) := if_neg h
    rw [e]; exact ⟨rfl, rfl, (decide_eq_true (by unfold treeI; omega)).symm⟩
instance c_pl_tree {n : Int} {leaf : Int} {w0 : World} {X : Nat → Prop} {L : List Assn}  : Ctr Try.prog 14 [.int .u64 n, .int .u64 leaf] w0 X L (0 ≤ n ∧ 0 ≤ leaf) (fun _ : Unit => .tuple #[Ag [.one (.int .u8 ((treeP n leaf).row)), .one (.int .u64 ((treeP n leaf).at_))], .bool (treeB n leaf)]) (fun _ : Unit => L) (fun _ : Unit => 0 ≤ (treeP n leaf).row ∧ (treeP n leaf).row ≤ 20 ∧ 0 ≤ (treeP n leaf).at_ ∧ (treeP n leaf).at_ ≤ 1048576) :=
  ctr' (M' := (fun _ : Unit => [])) (by kernel_rfl) (fun hp w hw => by exact pl_tree _ _ w hp) (by rintro hp ⟨e0, e1, e2⟩ ⟨rfl, rfl, rfl⟩ ok; exact ⟨(), rfl, rfl, treeP_ok n leaf⟩)
def standsB (n : Int) (p : PlG) : Bool := decide (p.row ≤ 20 ∧ p.at_ ≤ 1048576) && (treeB n (p.at_ * 2 ^ p.row.toNat) && decide (p.row ≤ (treeP n (p.at_ * 2 ^ p.row.toNat)).row))
theorem pl_stands (n : Int) (r : Int) (a : Int) (w0 : World)  (hp : 0 ≤ n ∧ (0 ≤ r ∧ r ≤ 255 ∧ 0 ≤ a ∧ a ≤ 18446744073709551615)) :
    Ct Try.prog 18 [.int .u64 n, Ag [.one (.int .u8 r), .one (.int .u64 a)]] w0 no (fun ((e0) : Bool) => .bool e0) (fun (e0) => []) (fun (e0) => e0 = standsB n ⟨r, a⟩) := by
  have hst := St.start w0
  refine genter _ hst Try.func18 rfl rfl rfl rfl ?_
  have hb : r ≤ 20 → a ≤ 1048576 → 0 ≤ a * 2 ^ r.toNat ∧ a * 2 ^ r.toNat ≤ 1099511627776 := fun h1 h2 => by
    have e0 : (2 : Int) ^ r.toNat = ((2 ^ r.toNat : Nat) : Int) := by simp
    have e1 := Nat.pow_le_pow_right (n := 2) (by omega) (show r.toNat ≤ 20 by omega)
    have e2 : (0 : Int) ≤ ((2 ^ r.toNat : Nat) : Int) := Int.natCast_nonneg _
    have e3 : ((2 ^ r.toNat : Nat) : Int) ≤ 1048576 := by omega
    rw [e0]
    exact ⟨Int.mul_nonneg (by omega) e2, Int.le_trans (Int.mul_le_mul h2 e3 e2 (by omega)) (by decide)⟩
  repeat' (first
   | (refine kO ?_; first | refine gv rfl rfl ?_ | refine gnil ?_ | refine gl rfl (lvb rfl rfl) rfl (fun _ => ?_) | refine gl rfl (lvB rfl rfl rfl) rfl (fun _ => ?_) | refine gl rfl (lve rfl rfl) rfl (fun _ => ?_) | refine gl rfl (lvE rfl rfl rfl) rfl (fun _ => ?_) | refine gl rfl (lva rfl rfl rfl rfl rfl) rfl (fun _ => ?_) | refine gp rfl (by (try simp only [InR]); omega) rfl ?_ | refine gsh rfl (by (try simp only [InR]); omega) rfl ?_ | refine gsv rfl (by (try simp only [InR, InSh]); omega) rfl ?_ | refine gf rfl rfl rfl ?_ | (refine kK ?_; first | refine gcall rfl ?_ rfl (fun _ _ => ?_) (fun _ _ => ?_) | refine gcv rfl rfl ?_ rfl (fun _ _ => ?_) (fun _ _ => ?_) | refine gcc1 rfl rfl ?_ rfl (fun _ _ => ?_) (fun _ _ => ?_)) | refine gx rfl rfl (fun _ => ?_) (fun _ => ?_) | refine ga rfl (fun _ => ?_) (fun _ => ?_) | refine gst rfl rfl rfl rfl ?_ ?_ | refine ge rfl rfl rfl rfl ?_ ?_ | refine gea rfl rfl rfl rfl rfl rfl rfl ?_ ?_ | (refine kg ?_; (first | refine guardT rfl rfl rfl rfl (fun h => ?_) (fun h => ?_) | refine guardF rfl rfl rfl rfl (fun h => ?_) (fun h => ?_) | refine guardU rfl rfl rfl rfl ?_ | refine guardTH rfl rfl rfl rfl ?_ (fun h => ?_) (fun h => ?_) | refine guardFH rfl rfl rfl rfl ?_ (fun h => ?_) (fun h => ?_) | refine guardUH rfl rfl rfl rfl ?_ ?_) <;> (first | exact h.elim | (exfalso; omega) | exact absurd h (by assumption) | exact absurd (by assumption) h | skip)))
   | (refine kC ?_; first | refine gseq ?_ | refine greg ?_ | refine gret ?_ | refine gskip ?_ | (refine gcond rfl (fun h => ?_) (fun h => ?_) <;> (first | exact h.elim | (exfalso; omega) | exact absurd h (by assumption) | exact absurd (by assumption) h | skip)))
   | (refine kN ?_; first | refine gthen ?_)
   | (refine kR ?_; first | refine grs ?_ | refine grc ?_)
   | (refine kR ?_; refine gr rfl (rvT rfl rv0) (_) rfl Ent.nil ?_)
   | (refine Pre.mk ?_; first | exact True.intro | omega | ((repeat' (first | refine And.intro ?_ ?_ | exact True.intro | assumption | omega)); done) | (simp only [and_true, true_and, or_true, true_or]; first | done | omega))
   | (refine kD ?_; first | exact dm_none))
  all_goals (unfold standsB; simp only; grind)
instance c_pl_stands {n : Int} {r : Int} {a : Int} {w0 : World} {X : Nat → Prop} {L : List Assn}  : Ctr Try.prog 18 [.int .u64 n, Ag [.one (.int .u8 r), .one (.int .u64 a)]] w0 X L (0 ≤ n ∧ (0 ≤ r ∧ r ≤ 255 ∧ 0 ≤ a ∧ a ≤ 18446744073709551615)) (fun _ : Unit => .bool (standsB n ⟨r, a⟩)) (fun _ : Unit => L) (fun _ : Unit => True) :=
  ctr' (M' := (fun _ : Unit => [])) (by kernel_rfl) (fun hp w hw => by exact pl_stands _ _ _ w hp) (by rintro hp e0 rfl ok; exact ⟨(), rfl, rfl, trivial⟩)
end Go.Proofs.Ytjiglibogmehfaa
