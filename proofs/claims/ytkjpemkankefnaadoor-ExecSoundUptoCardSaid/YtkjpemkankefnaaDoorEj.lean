/-
  exec's machine: branches.
-/
import Derived.Test.YtkjpemkankefnaaDoorEi
set_option linter.all false
set_option maxRecDepth 100000
set_option maxHeartbeats 4000000
namespace Go.Proofs.YtkjpemkankefnaaDoor
open Go.RowKit

def branchM (m : MM) (op : Int) : MM :=
  if op = 2 then (if overB m then ⟨m.st, (2, false) :: m.ps, m.e⟩ else ⟨(popM m 1).st, (if trueB ((popL m 1).getD 0 []) then 0 else 1, false) :: m.ps, (popM m 1).e⟩)
  else if op = 3 then (match m.ps with | [] => ⟨m.st, [], 8⟩ | x :: r => if x.2 then ⟨m.st, x :: r, 8⟩ else ⟨m.st, (if x.1 = 2 then 2 else 1 - x.1, true) :: r, m.e⟩)
  else if op = 4 then (match m.ps with | [] => ⟨m.st, [], 8⟩ | _ :: r => ⟨m.st, r, m.e⟩)
  else m
def branchB (op : Int) : Bool := decide (op = 2 ∨ op = 3 ∨ op = 4)
theorem topP_n {x : PtG} {o : List PtG} : (((x :: o).length : Int) - 1).toNat = o.length := by rw [List.length_cons]; omega
theorem topP_take {x : PtG} {o : List PtG} : (x :: o).reverse.take o.length = o.reverse := by rw [List.reverse_cons, List.take_left' (by simp)]
theorem topP_set {x b : PtG} {o : List PtG} : (x :: o).reverse.set o.length b = (b :: o).reverse := by
  rw [List.reverse_cons, List.reverse_cons, List.set_append_right _ _ (by simp)]; simp
theorem pushP {x : PtG} {o : List PtG} : o.reverse ++ [x] = (x :: o).reverse := by rw [List.reverse_cons]
theorem how_cons {x : PtG} {o : List PtG} (h : 0 ≤ x.1 ∧ x.1 ≤ 2) (ho : HowI o) : HowI (x :: o) := ⟨fun y hy => by
  rcases List.mem_cons.1 hy with rfl | hy
  · exact h
  · exact ho.h y hy⟩
theorem how_tail {x : PtG} {o : List PtG} (h : HowI (x :: o)) : HowI o := ⟨fun y hy => h.h y (List.mem_cons_of_mem _ hy)⟩
theorem mm_ext {m : MG} {x : MM} (h : m.ab = x) : m.gs.map bsK = x.st ∧ m.ps = x.ps ∧ m.e = x.e := by subst h; exact ⟨rfl, rfl, rfl⟩
theorem br_if {M : MM} {x : MG} {op z : Int} (h2 : op = 2) (ho : overB M = false) (hx : x.ab = popM M 1) (hz : (if trueB ((popL M 1).getD 0 []) then 0 else 1) = z) : (⟨x.gs.map bsK, (z, false) :: x.ps, x.e⟩ : MM) = branchM M op := by
  obtain ⟨e1, e2, e3⟩ := mm_ext hx
  rw [e1, e2, e3, popM_ps]; unfold branchM; rw [if_pos h2, if_neg (by simp [ho]), hz]
theorem br_if2 {M : MM} {x : MG} {op : Int} (h2 : op = 2) (ho : overB M = true) (hx : x.ab = M) : (⟨x.gs.map bsK, (2, false) :: x.ps, x.e⟩ : MM) = branchM M op := by
  obtain ⟨e1, e2, e3⟩ := mm_ext hx
  rw [e1, e2, e3]; unfold branchM; rw [if_pos h2, if_pos ho]
theorem br_ps {M : MM} {op : Int} : (branchM M op).ps.length ≤ M.ps.length + 1 := by
  unfold branchM
  split
  · split <;> simp
  · split
    · cases h : M.ps with
      | nil => simp
      | cons x r => dsimp only; split <;> simp
    · split
      · cases h : M.ps with
        | nil => simp
        | cons x r => simp; omega
      · omega
theorem br_len {m : MG} {x : MM} {op : Int} (hm : m.ab = branchM x op) : m.ps.length ≤ x.ps.length + 1 := by
  have h := br_ps (M := x) (op := op)
  rw [← hm] at h; exact h
theorem brB {op : Int} (h : op = 2 ∨ op = 3 ∨ op = 4) : true = branchB op := (decide_eq_true h).symm
theorem m_branch {w0 : World} {Y : Nat → Prop} {g : Nat} {ht : Int} {dg : List UInt8} [hdg : LenIs dg 32] {S P : Sv} {gs : List BsG} {ps : List (Int × Bool)} {e : Int} [hk : StkI gs] [hh : HowI ps] {op : Int} (hst : St w0 Y (boxA g 57 [Cs.one (Value.slice (Sv.A S) (List.length gs) (Sv.c S)), Cs.one (Value.slice (Sv.A P) (List.length ps) (Sv.c P)), Cs.one (Value.int IntKind.u32 ht), Cs.blk 32 (Rep.all RB dg), Cs.one (Value.int IntKind.i64 e)] :: rw_ 22 RBs S (List.length gs) gs :: lot (List.map bsRow gs) :: rw_ 80 RPt P (List.length ps) (List.reverse ps) :: ([])) w0) (hp : (0 ≤ op ∧ op ≤ 255) ∧ ps.length ≤ 1000000) :
    Ct Tryd.prog 31 [.pointer (some ⟨g, 0, none⟩), .int .u8 op] w0 Y (fun r : MG × Bool => .bool r.2) (fun r => (boxA g 57 [Cs.one (Value.slice (Sv.A (MG.st r.1)) (List.length (MG.gs r.1)) (Sv.c (MG.st r.1))), Cs.one (Value.slice (Sv.A (MG.pt r.1)) (List.length (MG.ps r.1)) (Sv.c (MG.pt r.1))), Cs.one (Value.int IntKind.u32 ht), Cs.blk 32 (Rep.all RB dg), Cs.one (Value.int IntKind.i64 (MG.e r.1))] :: rw_ 22 RBs (MG.st r.1) (List.length (MG.gs r.1)) (MG.gs r.1) :: lot (List.map bsRow (MG.gs r.1)) :: rw_ 80 RPt (MG.pt r.1) (List.length (MG.ps r.1)) (List.reverse (MG.ps r.1)) :: ([]))) (fun r => MG.ab r.1 = branchM (abM gs ps e) op ∧ r.2 = branchB op) := by
  have hML := ML_len hst
  refine genter _ hst Tryd.func31 rfl rfl rfl rfl ?_
  repeat' (first
   | (refine kO ?_; first | refine gbs RPt rfl rfl rfl rfl rfl rfl (fun _ => ?_) (fun _ => ?_) | refine gcr rfl rfl rfl rfl (by omega) rfl ?_ | refine gv rfl rfl ?_ | refine gnil ?_ | refine gnilD ?_ | refine gl rfl (lvb rfl rfl) rfl (fun _ => ?_) | refine gl rfl (lvB rfl rfl rfl) rfl (fun _ => ?_) | refine gl rfl (lve rfl rfl) rfl (fun _ => ?_) | refine gl rfl (lvE rfl rfl rfl) rfl (fun _ => ?_) | refine gl rfl (lva rfl rfl rfl rfl rfl) rfl (fun _ => ?_) | refine gp rfl (by (try simp only [InR]); omega) rfl ?_ | refine gf rfl rfl rfl ?_ | refine gix rfl rfl rfl rfl (by omega) rfl (fun _ => ?_) | refine gixa rfl rfl rfl rfl (by omega) rfl (fun _ => ?_) | refine gc3 rfl rfl rfl rfl rfl rfl (by omega) rfl (fun _ => ?_) | refine gc2 rfl rfl rfl rfl rfl (by omega) rfl (fun _ => ?_) | refine gch rfl rfl rfl rfl (by omega) rfl (fun _ => ?_) | refine gcl rfl rfl rfl rfl (by omega) rfl (fun _ => ?_) | refine gca rfl rfl rfl rfl ?_ | refine gchm rfl rfl rfl rfl rfl (by omega) rfl (fun _ => ?_) | (refine kK ?_; first | refine gcall rfl ?_ rfl (fun _ _ => ?_) (fun _ _ => ?_) | refine gcv rfl rfl ?_ rfl (fun _ _ => ?_) (fun _ _ => ?_) | refine gcc1 rfl rfl ?_ rfl (fun _ _ => ?_) (fun _ _ => ?_)) | refine geql rfl rfl (by kernel_rfl) ?_ rfl ?_ | refine gneq rfl rfl (by kernel_rfl) ?_ rfl ?_ | refine gbu rfl rfl rfl rfl rfl ?_ | refine ga rfl (fun _ => ?_) (fun _ => ?_) | refine gst rfl rfl rfl rfl ?_ ?_ | refine ge rfl rfl rfl rfl ?_ ?_ | refine gea rfl rfl rfl rfl rfl rfl rfl ?_ ?_ | refine gap rfl rfl rfl (by omega) rfl (fun _ => ?_) (fun _ => ?_) | refine gan rfl rfl rfl (by omega) rfl (fun _ => ?_) (fun _ => ?_) | refine gapz rfl rfl rfl rfl (by omega) rfl (fun _ => ?_) (fun _ => ?_) | refine ganz rfl rfl rfl rfl (by omega) rfl (fun _ => ?_) (fun _ => ?_) | refine gbs RB rfl rfl rfl rfl rfl rfl (fun _ => ?_) (fun _ => ?_) | refine gbb rfl rfl rfl (by first | (simp; done) | (simp only [and_true]; omega)) rfl rfl rfl rfl (fun _ => ?_) (fun _ => ?_) | refine gw rfl rfl ?_ | (refine kg ?_; (first | refine guardT rfl rfl rfl rfl (fun h => ?_) (fun h => ?_) | refine guardF rfl rfl rfl rfl (fun h => ?_) (fun h => ?_) | refine guardU rfl rfl rfl rfl ?_ | refine guardTH rfl rfl rfl rfl ?_ (fun h => ?_) (fun h => ?_) | refine guardFH rfl rfl rfl rfl ?_ (fun h => ?_) (fun h => ?_) | refine guardUH rfl rfl rfl rfl ?_ ?_) <;> (first | exact h.elim | (exfalso; omega) | exact absurd h (by assumption) | exact absurd (by assumption) h | skip)))
   | (refine kC ?_; first | refine gseq ?_ | refine greg ?_ | refine gret ?_ | refine gskip ?_ | refine gdraw (id := 11) [0,1,2,3,4,5,6,7,8,9,10] (by kernel_rfl) (by kernel_rfl) rfl ?_ | (refine gcond rfl (fun h => ?_) (fun h => ?_) <;> (first | exact h.elim | (exfalso; omega) | exact absurd h (by assumption) | exact absurd (by assumption) h | skip)) | refine gblk ?_)
   | (refine kN ?_; first | refine gthen ?_ | refine gnblk ?_)
   | (refine kR ?_; first | refine grs ?_ | refine grb ?_ | refine grc ?_)
   | (refine kR ?_; refine grm rfl (rvT rfl rv0) _ ?_ ?_ rfl rfl Ent.nil ?_; all_goals try infer_instance)
   | (refine Pre.mk ?_; first | exact True.intro | omega | ((repeat' (first | refine And.intro ?_ ?_ | exact True.intro | assumption | omega)); done) | (simp only [and_true, true_and, or_true, true_or]; first | done | omega))
   | (refine kD ?_; first | exact dm_none | exact dm0 | refine dmOff rfl ?_ | refine dmOn (lvb rfl rfl) ?_ | refine dmOn (lvB rfl rfl rfl) ?_ | refine dmOn (lve rfl rfl) ?_ | refine dmOn (lvE rfl rfl rfl) ?_ | refine dmOn (lva rfl rfl rfl rfl rfl) ?_))
  · rename_i h2 g2 m hm ho x hx _ _ _ _ _ _ s1 s2
    rw [show abM m.gs m.ps m.e = _ from hm.1] at hx
    rw [show x.1.ps.length + 1 = (((0, false) :: x.1.ps) : List PtG).length from rfl, pushP]
    have hw : HowI ((0, false) :: x.1.ps) := how_cons ⟨by simp, by simp⟩ x.1.okp
    refine grm rfl (rvT rfl rv0) _ x.1.ok hw rfl rfl Ent.nil ⟨br_if h2 ho hx.1 (by rw [hx.2.2.2.1] at h; rw [if_pos h]), brB (.inl h2)⟩
  · rename_i h2 g2 m hm ho x hx _ _ _ _ _ _ s1 s2
    rw [show abM m.gs m.ps m.e = _ from hm.1] at hx
    rw [show x.1.ps.length + 1 = (((1, false) :: x.1.ps) : List PtG).length from rfl, pushP]
    have hw : HowI ((1, false) :: x.1.ps) := how_cons ⟨by simp, by simp⟩ x.1.okp
    refine grm rfl (rvT rfl rv0) _ x.1.ok hw rfl rfl Ent.nil ⟨br_if h2 ho hx.1 (by rw [hx.2.2.2.1] at h; rw [if_neg (by rw [h]; exact Bool.false_ne_true)]), brB (.inl h2)⟩
  · rename_i h2 g2 m hm _ _ s1 s2
    rw [show m.ps.length + 1 = (((2, false) :: m.ps) : List PtG).length from rfl, pushP]
    have hw : HowI ((2, false) :: m.ps) := how_cons ⟨by simp, by simp⟩ m.okp
    refine grm rfl (rvT rfl rv0) _ m.ok hw rfl rfl Ent.nil ⟨br_if2 h2 h hm.1, brB (.inl h2)⟩
  · obtain ⟨x, o, rfl⟩ : ∃ x o, ps = x :: o := by cases ps with | nil => exact absurd rfl (by assumption) | cons x o => exact ⟨x, o, rfl⟩
    rw [top_r] at h
    have h3 : op = 3 := by assumption
    refine ⟨?_, brB (.inr (.inl h3))⟩
    show _ = branchM (abM gs (x :: o) e) op
    unfold branchM
    rw [if_neg (by omega), if_pos h3]; simp only [h, if_true]
  · obtain ⟨x, o, rfl⟩ : ∃ x o, ps = x :: o := by cases ps with | nil => exact absurd rfl (by assumption) | cons x o => exact ⟨x, o, rfl⟩
    rw [top_r] at h
    have hx := hh.h x (by simp)
    have h3 : op = 3 := by assumption
    refine gep (x.1, true) rfl rfl (by rw [top_r]; rfl) rfl ?_ ?_
    · exact dm_none
    rw [topP_n, topP_set]
    have hq : ixd ((x.1, true) :: o).reverse (((x :: o).length : Int) - 1) = (x.1, true) := top_r
    have hq1 : (ixd ((x.1, true) :: o).reverse (((x :: o).length : Int) - 1)).1 = x.1 := by rw [hq]
    repeat' (first
     | (refine kO ?_; first | refine gv rfl rfl ?_ | refine gnil ?_ | refine gnilD ?_ | refine gl rfl (lvb rfl rfl) rfl (fun _ => ?_) | refine gl rfl (lvB rfl rfl rfl) rfl (fun _ => ?_) | refine gl rfl (lve rfl rfl) rfl (fun _ => ?_) | refine gl rfl (lvE rfl rfl rfl) rfl (fun _ => ?_) | refine gl rfl (lva rfl rfl rfl rfl rfl) rfl (fun _ => ?_) | refine gp rfl (by (try simp only [InR]); omega) rfl ?_ | refine gf rfl rfl rfl ?_ | refine gix rfl rfl rfl rfl (by omega) rfl (fun _ => ?_) | refine gixa rfl rfl rfl rfl (by omega) rfl (fun _ => ?_) | refine gc3 rfl rfl rfl rfl rfl rfl (by omega) rfl (fun _ => ?_) | refine gc2 rfl rfl rfl rfl rfl (by omega) rfl (fun _ => ?_) | refine gch rfl rfl rfl rfl (by omega) rfl (fun _ => ?_) | refine gcl rfl rfl rfl rfl (by omega) rfl (fun _ => ?_) | refine gca rfl rfl rfl rfl ?_ | refine gchm rfl rfl rfl rfl rfl (by omega) rfl (fun _ => ?_) | (refine kK ?_; first | refine gcall rfl ?_ rfl (fun _ _ => ?_) (fun _ _ => ?_) | refine gcv rfl rfl ?_ rfl (fun _ _ => ?_) (fun _ _ => ?_) | refine gcc1 rfl rfl ?_ rfl (fun _ _ => ?_) (fun _ _ => ?_)) | refine geql rfl rfl (by kernel_rfl) ?_ rfl ?_ | refine gneq rfl rfl (by kernel_rfl) ?_ rfl ?_ | refine gbu rfl rfl rfl rfl rfl ?_ | refine ga rfl (fun _ => ?_) (fun _ => ?_) | refine gst rfl rfl rfl rfl ?_ ?_ | refine ge rfl rfl rfl rfl ?_ ?_ | refine gea rfl rfl rfl rfl rfl rfl rfl ?_ ?_ | refine gap rfl rfl rfl (by omega) rfl (fun _ => ?_) (fun _ => ?_) | refine gan rfl rfl rfl (by omega) rfl (fun _ => ?_) (fun _ => ?_) | refine gapz rfl rfl rfl rfl (by omega) rfl (fun _ => ?_) (fun _ => ?_) | refine ganz rfl rfl rfl rfl (by omega) rfl (fun _ => ?_) (fun _ => ?_) | refine gbs RB rfl rfl rfl rfl rfl rfl (fun _ => ?_) (fun _ => ?_) | refine gbb rfl rfl rfl (by first | (simp; done) | (simp only [and_true]; omega)) rfl rfl rfl rfl (fun _ => ?_) (fun _ => ?_) | refine gw rfl rfl ?_ | (refine kg ?_; (first | refine guardT rfl rfl rfl rfl (fun h => ?_) (fun h => ?_) | refine guardF rfl rfl rfl rfl (fun h => ?_) (fun h => ?_) | refine guardU rfl rfl rfl rfl ?_ | refine guardTH rfl rfl rfl rfl ?_ (fun h => ?_) (fun h => ?_) | refine guardFH rfl rfl rfl rfl ?_ (fun h => ?_) (fun h => ?_) | refine guardUH rfl rfl rfl rfl ?_ ?_) <;> (first | exact h.elim | (exfalso; omega) | exact absurd h (by assumption) | exact absurd (by assumption) h | skip)))
     | (refine kC ?_; first | refine gseq ?_ | refine greg ?_ | refine gret ?_ | refine gskip ?_ | refine gdraw (id := 11) [0,1,2,3,4,5,6,7,8,9,10] (by kernel_rfl) (by kernel_rfl) rfl ?_ | (refine gcond rfl (fun h => ?_) (fun h => ?_) <;> (first | exact h.elim | (exfalso; omega) | exact absurd h (by assumption) | exact absurd (by assumption) h | skip)) | refine gblk ?_)
     | (refine kN ?_; first | refine gthen ?_ | refine gnblk ?_)
     | (refine kR ?_; first | refine grs ?_ | refine grb ?_ | refine grc ?_)
     | (refine kR ?_; refine grm rfl (rvT rfl rv0) _ ?_ ?_ rfl rfl Ent.nil ?_; all_goals try infer_instance)
     | (refine Pre.mk ?_; first | exact True.intro | omega | ((repeat' (first | refine And.intro ?_ ?_ | exact True.intro | assumption | omega)); done) | (simp only [and_true, true_and, or_true, true_or]; first | done | omega))
     | (refine kD ?_; first | exact dm_none | exact dm0 | refine dmOff rfl ?_ | refine dmOn (lvb rfl rfl) ?_ | refine dmOn (lvB rfl rfl rfl) ?_ | refine dmOn (lve rfl rfl) ?_ | refine dmOn (lvE rfl rfl rfl) ?_ | refine dmOn (lva rfl rfl rfl rfl rfl) ?_))
    · rw [hq1] at h
      rw [hq1]
      refine gep (1 - x.1, true) rfl rfl (by rw [hq]; rfl) rfl ?_ ?_
      · exact dm_none
      rw [topP_n, topP_set, show (x :: o).length = (((1 - x.1, true) :: o) : List PtG).length from rfl]
      have hw : HowI ((1 - x.1, true) :: o) := how_cons ⟨by dsimp only; omega, by dsimp only; omega⟩ (how_tail hh)
      repeat' (first
       | (refine kO ?_; first | refine gv rfl rfl ?_ | refine gnil ?_ | refine gnilD ?_ | refine gl rfl (lvb rfl rfl) rfl (fun _ => ?_) | refine gl rfl (lvB rfl rfl rfl) rfl (fun _ => ?_) | refine gl rfl (lve rfl rfl) rfl (fun _ => ?_) | refine gl rfl (lvE rfl rfl rfl) rfl (fun _ => ?_) | refine gl rfl (lva rfl rfl rfl rfl rfl) rfl (fun _ => ?_) | refine gp rfl (by (try simp only [InR]); omega) rfl ?_ | refine gf rfl rfl rfl ?_ | refine gix rfl rfl rfl rfl (by omega) rfl (fun _ => ?_) | refine gixa rfl rfl rfl rfl (by omega) rfl (fun _ => ?_) | refine gc3 rfl rfl rfl rfl rfl rfl (by omega) rfl (fun _ => ?_) | refine gc2 rfl rfl rfl rfl rfl (by omega) rfl (fun _ => ?_) | refine gch rfl rfl rfl rfl (by omega) rfl (fun _ => ?_) | refine gcl rfl rfl rfl rfl (by omega) rfl (fun _ => ?_) | refine gca rfl rfl rfl rfl ?_ | refine gchm rfl rfl rfl rfl rfl (by omega) rfl (fun _ => ?_) | (refine kK ?_; first | refine gcall rfl ?_ rfl (fun _ _ => ?_) (fun _ _ => ?_) | refine gcv rfl rfl ?_ rfl (fun _ _ => ?_) (fun _ _ => ?_) | refine gcc1 rfl rfl ?_ rfl (fun _ _ => ?_) (fun _ _ => ?_)) | refine geql rfl rfl (by kernel_rfl) ?_ rfl ?_ | refine gneq rfl rfl (by kernel_rfl) ?_ rfl ?_ | refine gbu rfl rfl rfl rfl rfl ?_ | refine ga rfl (fun _ => ?_) (fun _ => ?_) | refine gst rfl rfl rfl rfl ?_ ?_ | refine ge rfl rfl rfl rfl ?_ ?_ | refine gea rfl rfl rfl rfl rfl rfl rfl ?_ ?_ | refine gap rfl rfl rfl (by omega) rfl (fun _ => ?_) (fun _ => ?_) | refine gan rfl rfl rfl (by omega) rfl (fun _ => ?_) (fun _ => ?_) | refine gapz rfl rfl rfl rfl (by omega) rfl (fun _ => ?_) (fun _ => ?_) | refine ganz rfl rfl rfl rfl (by omega) rfl (fun _ => ?_) (fun _ => ?_) | refine gbs RB rfl rfl rfl rfl rfl rfl (fun _ => ?_) (fun _ => ?_) | refine gbb rfl rfl rfl (by first | (simp; done) | (simp only [and_true]; omega)) rfl rfl rfl rfl (fun _ => ?_) (fun _ => ?_) | refine gw rfl rfl ?_ | (refine kg ?_; (first | refine guardT rfl rfl rfl rfl (fun h => ?_) (fun h => ?_) | refine guardF rfl rfl rfl rfl (fun h => ?_) (fun h => ?_) | refine guardU rfl rfl rfl rfl ?_ | refine guardTH rfl rfl rfl rfl ?_ (fun h => ?_) (fun h => ?_) | refine guardFH rfl rfl rfl rfl ?_ (fun h => ?_) (fun h => ?_) | refine guardUH rfl rfl rfl rfl ?_ ?_) <;> (first | exact h.elim | (exfalso; omega) | exact absurd h (by assumption) | exact absurd (by assumption) h | skip)))
       | (refine kC ?_; first | refine gseq ?_ | refine greg ?_ | refine gret ?_ | refine gskip ?_ | refine gdraw (id := 11) [0,1,2,3,4,5,6,7,8,9,10] (by kernel_rfl) (by kernel_rfl) rfl ?_ | (refine gcond rfl (fun h => ?_) (fun h => ?_) <;> (first | exact h.elim | (exfalso; omega) | exact absurd h (by assumption) | exact absurd (by assumption) h | skip)) | refine gblk ?_)
       | (refine kN ?_; first | refine gthen ?_ | refine gnblk ?_)
       | (refine kR ?_; first | refine grs ?_ | refine grb ?_ | refine grc ?_)
       | (refine kR ?_; refine grm rfl (rvT rfl rv0) _ ?_ ?_ rfl rfl Ent.nil ?_; all_goals try infer_instance)
       | (refine Pre.mk ?_; first | exact True.intro | omega | ((repeat' (first | refine And.intro ?_ ?_ | exact True.intro | assumption | omega)); done) | (simp only [and_true, true_and, or_true, true_or]; first | done | omega))
       | (refine kD ?_; first | exact dm_none | exact dm0 | refine dmOff rfl ?_ | refine dmOn (lvb rfl rfl) ?_ | refine dmOn (lvB rfl rfl rfl) ?_ | refine dmOn (lve rfl rfl) ?_ | refine dmOn (lvE rfl rfl rfl) ?_ | refine dmOn (lva rfl rfl rfl rfl rfl) ?_))
      refine ⟨?_, brB (.inr (.inl h3))⟩
      show _ = branchM (abM gs (x :: o) e) op
      unfold branchM
      rw [if_neg (by omega), if_pos h3]
      have h0 : x.2 = false := by assumption
      simp only [h0, if_neg h, Bool.false_eq_true, if_false]
    · rw [hq1] at h
      rw [show (x :: o).length = (((x.1, true) :: o) : List PtG).length from rfl]
      have hw : HowI ((x.1, true) :: o) := how_cons hx (how_tail hh)
      repeat' (first
       | (refine kO ?_; first | refine gv rfl rfl ?_ | refine gnil ?_ | refine gnilD ?_ | refine gl rfl (lvb rfl rfl) rfl (fun _ => ?_) | refine gl rfl (lvB rfl rfl rfl) rfl (fun _ => ?_) | refine gl rfl (lve rfl rfl) rfl (fun _ => ?_) | refine gl rfl (lvE rfl rfl rfl) rfl (fun _ => ?_) | refine gl rfl (lva rfl rfl rfl rfl rfl) rfl (fun _ => ?_) | refine gp rfl (by (try simp only [InR]); omega) rfl ?_ | refine gf rfl rfl rfl ?_ | refine gix rfl rfl rfl rfl (by omega) rfl (fun _ => ?_) | refine gixa rfl rfl rfl rfl (by omega) rfl (fun _ => ?_) | refine gc3 rfl rfl rfl rfl rfl rfl (by omega) rfl (fun _ => ?_) | refine gc2 rfl rfl rfl rfl rfl (by omega) rfl (fun _ => ?_) | refine gch rfl rfl rfl rfl (by omega) rfl (fun _ => ?_) | refine gcl rfl rfl rfl rfl (by omega) rfl (fun _ => ?_) | refine gca rfl rfl rfl rfl ?_ | refine gchm rfl rfl rfl rfl rfl (by omega) rfl (fun _ => ?_) | (refine kK ?_; first | refine gcall rfl ?_ rfl (fun _ _ => ?_) (fun _ _ => ?_) | refine gcv rfl rfl ?_ rfl (fun _ _ => ?_) (fun _ _ => ?_) | refine gcc1 rfl rfl ?_ rfl (fun _ _ => ?_) (fun _ _ => ?_)) | refine geql rfl rfl (by kernel_rfl) ?_ rfl ?_ | refine gneq rfl rfl (by kernel_rfl) ?_ rfl ?_ | refine gbu rfl rfl rfl rfl rfl ?_ | refine ga rfl (fun _ => ?_) (fun _ => ?_) | refine gst rfl rfl rfl rfl ?_ ?_ | refine ge rfl rfl rfl rfl ?_ ?_ | refine gea rfl rfl rfl rfl rfl rfl rfl ?_ ?_ | refine gap rfl rfl rfl (by omega) rfl (fun _ => ?_) (fun _ => ?_) | refine gan rfl rfl rfl (by omega) rfl (fun _ => ?_) (fun _ => ?_) | refine gapz rfl rfl rfl rfl (by omega) rfl (fun _ => ?_) (fun _ => ?_) | refine ganz rfl rfl rfl rfl (by omega) rfl (fun _ => ?_) (fun _ => ?_) | refine gbs RB rfl rfl rfl rfl rfl rfl (fun _ => ?_) (fun _ => ?_) | refine gbb rfl rfl rfl (by first | (simp; done) | (simp only [and_true]; omega)) rfl rfl rfl rfl (fun _ => ?_) (fun _ => ?_) | refine gw rfl rfl ?_ | (refine kg ?_; (first | refine guardT rfl rfl rfl rfl (fun h => ?_) (fun h => ?_) | refine guardF rfl rfl rfl rfl (fun h => ?_) (fun h => ?_) | refine guardU rfl rfl rfl rfl ?_ | refine guardTH rfl rfl rfl rfl ?_ (fun h => ?_) (fun h => ?_) | refine guardFH rfl rfl rfl rfl ?_ (fun h => ?_) (fun h => ?_) | refine guardUH rfl rfl rfl rfl ?_ ?_) <;> (first | exact h.elim | (exfalso; omega) | exact absurd h (by assumption) | exact absurd (by assumption) h | skip)))
       | (refine kC ?_; first | refine gseq ?_ | refine greg ?_ | refine gret ?_ | refine gskip ?_ | refine gdraw (id := 11) [0,1,2,3,4,5,6,7,8,9,10] (by kernel_rfl) (by kernel_rfl) rfl ?_ | (refine gcond rfl (fun h => ?_) (fun h => ?_) <;> (first | exact h.elim | (exfalso; omega) | exact absurd h (by assumption) | exact absurd (by assumption) h | skip)) | refine gblk ?_)
       | (refine kN ?_; first | refine gthen ?_ | refine gnblk ?_)
       | (refine kR ?_; first | refine grs ?_ | refine grb ?_ | refine grc ?_)
       | (refine kR ?_; refine grm rfl (rvT rfl rv0) _ ?_ ?_ rfl rfl Ent.nil ?_; all_goals try infer_instance)
       | (refine Pre.mk ?_; first | exact True.intro | omega | ((repeat' (first | refine And.intro ?_ ?_ | exact True.intro | assumption | omega)); done) | (simp only [and_true, true_and, or_true, true_or]; first | done | omega))
       | (refine kD ?_; first | exact dm_none | exact dm0 | refine dmOff rfl ?_ | refine dmOn (lvb rfl rfl) ?_ | refine dmOn (lvB rfl rfl rfl) ?_ | refine dmOn (lve rfl rfl) ?_ | refine dmOn (lvE rfl rfl rfl) ?_ | refine dmOn (lva rfl rfl rfl rfl rfl) ?_))
      refine ⟨?_, brB (.inr (.inl h3))⟩
      show _ = branchM (abM gs (x :: o) e) op
      unfold branchM
      rw [if_neg (by omega), if_pos h3]
      have h0 : x.2 = false := by assumption
      simp only [h0, if_pos h, Bool.false_eq_true, if_false]
      exact congrArg (fun t => (⟨gs.map bsK, (t, true) :: o, e⟩ : MM)) h
  · have e0 : ps = [] := List.eq_nil_of_length_eq_zero (by omega)
    subst e0
    have h3 : op = 3 := by assumption
    refine ⟨?_, brB (.inr (.inl h3))⟩
    show _ = branchM (abM gs [] e) op
    unfold branchM
    rw [if_neg (by omega), if_pos h3]
  · have e0 : ps = [] := List.eq_nil_of_length_eq_zero (by omega)
    subst e0
    have h4 : op = 4 := by assumption
    refine ⟨?_, brB (.inr (.inr h4))⟩
    show _ = branchM (abM gs [] e) op
    unfold branchM
    rw [if_neg (by omega), if_neg (by omega), if_pos h4]
  · obtain ⟨x, o, rfl⟩ : ∃ x o, ps = x :: o := by cases ps with | nil => exact absurd rfl (by assumption) | cons x o => exact ⟨x, o, rfl⟩
    have h4 : op = 4 := by assumption
    have hw : HowI o := how_tail hh
    rw [topP_n, topP_take]
    refine grm rfl (rvT rfl rv0) _ ?_ hw rfl rfl Ent.nil ⟨?_, brB (.inr (.inr h4))⟩
    · infer_instance
    show _ = branchM (abM gs (x :: o) e) op
    unfold branchM
    rw [if_neg (by omega), if_neg (by omega), if_pos h4]
  · refine ⟨?_, (decide_eq_false (by omega)).symm⟩
    show _ = branchM (abM gs ps e) op
    unfold branchM
    rw [if_neg (by omega), if_neg (by omega), if_neg h]
instance c_m_branch {w0 : World} {X : Nat → Prop} {L rest : List Assn} {g : Nat} {ht : Int} {dg : List UInt8} {S P : Sv} {gs : List BsG} {ps : List (Int × Bool)} {e : Int} [hdg : LenIs dg 32] [hb : FBox L g 57 [Cs.one (Value.slice (Sv.A S) (List.length gs) (Sv.c S)), Cs.one (Value.slice (Sv.A P) (List.length ps) (Sv.c P)), Cs.one (Value.int IntKind.u32 ht), Cs.blk 32 (Rep.all RB dg), Cs.one (Value.int IntKind.i64 e)]] [hs : Spl L (boxA g 57 [Cs.one (Value.slice (Sv.A S) (List.length gs) (Sv.c S)), Cs.one (Value.slice (Sv.A P) (List.length ps) (Sv.c P)), Cs.one (Value.int IntKind.u32 ht), Cs.blk 32 (Rep.all RB dg), Cs.one (Value.int IntKind.i64 e)] :: rw_ 22 RBs S (List.length gs) gs :: lot (List.map bsRow gs) :: rw_ 80 RPt P (List.length ps) (List.reverse ps) :: ([])) rest] [hk : StkI gs] [hh : HowI ps] {op : Int} :
    Ctr Tryd.prog 31 [.pointer (some ⟨g, 0, none⟩), .int .u8 op] w0 X L ((0 ≤ op ∧ op ≤ 255) ∧ ps.length ≤ 1000000) (fun r : MG => .bool (branchB op)) (fun r => (boxA g 57 [Cs.one (Value.slice (Sv.A (MG.st r)) (List.length (MG.gs r)) (Sv.c (MG.st r))), Cs.one (Value.slice (Sv.A (MG.pt r)) (List.length (MG.ps r)) (Sv.c (MG.pt r))), Cs.one (Value.int IntKind.u32 ht), Cs.blk 32 (Rep.all RB dg), Cs.one (Value.int IntKind.i64 (MG.e r))] :: rw_ 22 RBs (MG.st r) (List.length (MG.gs r)) (MG.gs r) :: lot (List.map bsRow (MG.gs r)) :: rw_ 80 RPt (MG.pt r) (List.length (MG.ps r)) (List.reverse (MG.ps r)) :: rest)) (fun r => MG.ab r = branchM (abM gs ps e) op ∧ r.ps.length ≤ ps.length + 1) :=
  ⟨by kernel_rfl, fun hp w hw => by
    obtain ⟨Y, h1, h2⟩ := hw.lendS hs
    have hr := (h2 _ _ h1).dropN
    refine (m_branch  h1 hp).mono fun _ w' ⟨r, he, hst, hφ⟩ => ?_
    obtain ⟨m', e0⟩ := r
    obtain ⟨hm, rfl⟩ := hφ
    exact ⟨m', he, h2 _ _ hst, hm, br_len hm⟩⟩
end Go.Proofs.YtkjpemkankefnaaDoor
