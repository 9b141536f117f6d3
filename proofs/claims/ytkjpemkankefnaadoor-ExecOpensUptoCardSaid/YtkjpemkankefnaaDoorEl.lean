/-
  exec's machine: hashes, steps.
-/
import Derived.Test.YtkjpemkankefnaaDoorEj
import Derived.Test.YtkjpemkankefnaaDoorEk
set_option linter.all false
set_option maxRecDepth 100000
set_option maxHeartbeats 4000000
namespace Go.Proofs.YtkjpemkankefnaaDoor
open Go.RowKit

theorem boolC_len (x : Bool) : (boolC x).length ≤ 1 := by cases x <;> simp [boolC]
theorem pre1 {x : BsG} (h : x.2.length ≤ 140737488351232) : [x].length ≤ 1000000 ∧ ∀ y ∈ [x], y.2.length ≤ 140737488351232 := ⟨by simp, fun y hy => by simp at hy; subst hy; exact h⟩
theorem pre2 {x z : BsG} (h : x.2.length ≤ 140737488351232) (h2 : z.2.length ≤ 140737488351232) : [x, z].length ≤ 1000000 ∧ ∀ y ∈ [x, z], y.2.length ≤ 140737488351232 := ⟨by simp, fun y hy => by
  simp only [List.mem_cons, List.not_mem_nil, or_false] at hy
  rcases hy with rfl | rfl
  · exact h
  · exact h2⟩
def hashM (m : MM) (op ht : Int) (dg : List UInt8) : MM :=
  if op = 17 then pushM (popM m 1) [(shaH ((popL m 1).getD 0 [])).l]
  else if op = 18 then pushM (popM m 1) [(sha2 ((popL m 1).getD 0 [])).l]
  else if op = 19 then pushM (popM m 2) [boolC (decide (((popL m 2).getD 1 []).length = 32 ∧ lampE ((popL m 2).getD 1 []) dg ((popL m 2).getD 0 []) = 0))]
  else if op = 20 then failM (numM (popM m 1) ((popL m 1).getD 0 [])) (decide (numN ((popL m 1).getD 0 []) ≤ ht))
  else ⟨m.st, m.ps, 8⟩
theorem m_hashes {w0 : World} {Y : Nat → Prop} {g : Nat} {ht : Int} {dg : List UInt8} [hdg : LenIs dg 32] {S P : Sv} {gs : List BsG} {ps : List (Int × Bool)} {e : Int} [hk : StkI gs] [hh : HowI ps] [i_K : ∀ L', KR w0 Y L'] {op : Int} (hst : St w0 Y (boxA g 57 [Cs.one (Value.slice (Sv.A S) (List.length gs) (Sv.c S)), Cs.one (Value.slice (Sv.A P) (List.length ps) (Sv.c P)), Cs.one (Value.int IntKind.u32 ht), Cs.blk 32 (Rep.all RB dg), Cs.one (Value.int IntKind.i64 e)] :: rw_ 22 RBs S (List.length gs) gs :: lot (List.map bsRow gs) :: rw_ 80 RPt P (List.length ps) (List.reverse ps) :: ([])) w0) (hp : (0 ≤ op ∧ op ≤ 255) ∧ 0 ≤ ht ∧ ht ≤ 4294967295) :
    Ct Tryd.prog 55 [.pointer (some ⟨g, 0, none⟩), .int .u8 op] w0 Y (fun r : MG × Unit => .tuple #[]) (fun r => (boxA g 57 [Cs.one (Value.slice (Sv.A (MG.st r.1)) (List.length (MG.gs r.1)) (Sv.c (MG.st r.1))), Cs.one (Value.slice (Sv.A (MG.pt r.1)) (List.length (MG.ps r.1)) (Sv.c (MG.pt r.1))), Cs.one (Value.int IntKind.u32 ht), Cs.blk 32 (Rep.all RB dg), Cs.one (Value.int IntKind.i64 (MG.e r.1))] :: rw_ 22 RBs (MG.st r.1) (List.length (MG.gs r.1)) (MG.gs r.1) :: lot (List.map bsRow (MG.gs r.1)) :: rw_ 80 RPt (MG.pt r.1) (List.length (MG.ps r.1)) (List.reverse (MG.ps r.1)) :: ([]))) (fun r => MG.ab r.1 = hashM (abM gs ps e) op ht dg ∧ True) := by
  have hML := ML_len hst
  refine genter _ hst Tryd.func55 rfl rfl rfl rfl ?_
  have hsl := fun l => (shaH l).len
  have hs2 := fun l => (sha2 l).len
  have hbl := boolC_len
  repeat' (first
   | (refine kO ?_; first | refine gbs RBs rfl rfl rfl rfl rfl rfl (fun _ => ?_) (fun _ => ?_) | refine gcal rfl rfl rfl rfl ?_ | refine gv rfl rfl ?_ | refine gnil ?_ | refine gnilD ?_ | refine gl rfl (lvb rfl rfl) rfl (fun _ => ?_) | refine gl rfl (lvB rfl rfl rfl) rfl (fun _ => ?_) | refine gl rfl (lve rfl rfl) rfl (fun _ => ?_) | refine gl rfl (lvE rfl rfl rfl) rfl (fun _ => ?_) | refine gl rfl (lva rfl rfl rfl rfl rfl) rfl (fun _ => ?_) | refine gp rfl (by (try simp only [InR]); omega) rfl ?_ | refine gf rfl rfl rfl ?_ | refine gix rfl rfl rfl rfl (by omega) rfl (fun _ => ?_) | refine gixa rfl rfl rfl rfl (by omega) rfl (fun _ => ?_) | refine gc3 rfl rfl rfl rfl rfl rfl (by omega) rfl (fun _ => ?_) | refine gc2 rfl rfl rfl rfl rfl (by omega) rfl (fun _ => ?_) | refine gch rfl rfl rfl rfl (by omega) rfl (fun _ => ?_) | refine gcl rfl rfl rfl rfl (by omega) rfl (fun _ => ?_) | refine gca rfl rfl rfl rfl ?_ | refine gchm rfl rfl rfl rfl rfl (by omega) rfl (fun _ => ?_) | (refine kK ?_; first | refine gcall rfl ?_ rfl (fun _ _ => ?_) (fun _ _ => ?_) | refine gcv rfl rfl ?_ rfl (fun _ _ => ?_) (fun _ _ => ?_) | refine gcc1 rfl rfl ?_ rfl (fun _ _ => ?_) (fun _ _ => ?_)) | refine geql rfl rfl (by kernel_rfl) ?_ rfl ?_ | refine ga rfl (fun _ => ?_) (fun _ => ?_) | refine gst rfl rfl rfl rfl ?_ ?_ | refine ge rfl rfl rfl rfl ?_ ?_ | refine gea rfl rfl rfl rfl rfl rfl rfl ?_ ?_ | refine gbs RB rfl rfl rfl rfl rfl rfl (fun _ => ?_) (fun _ => ?_) | refine gbb rfl rfl rfl (by first | (simp; done) | (simp only [and_true]; omega)) rfl rfl rfl rfl (fun _ => ?_) (fun _ => ?_) | refine gb rfl rfl rfl rfl ?_ | refine gw rfl rfl ?_ | (refine kg ?_; (first | refine guardT rfl rfl rfl rfl (fun h => ?_) (fun h => ?_) | refine guardF rfl rfl rfl rfl (fun h => ?_) (fun h => ?_) | refine guardU rfl rfl rfl rfl ?_ | refine guardTH rfl rfl rfl rfl ?_ (fun h => ?_) (fun h => ?_) | refine guardFH rfl rfl rfl rfl ?_ (fun h => ?_) (fun h => ?_) | refine guardUH rfl rfl rfl rfl ?_ ?_) <;> (first | exact h.elim | (exfalso; omega) | exact absurd h (by assumption) | exact absurd (by assumption) h | skip)))
   | (refine kC ?_; first | refine gseq ?_ | refine greg ?_ | refine gret ?_ | refine gskip ?_ | refine gdraw (id := 10) [0,1,2,3,4,5,6,7,8,9,11,12,13,14,15,16,17,18,10,19,20,21,22,23,24] (by kernel_rfl) (by kernel_rfl) rfl ?_ | refine gdraw (id := 12) [0,1,2,7,8,9,10,11,12,3,4,5,6,13,14] (by kernel_rfl) (by kernel_rfl) rfl ?_ | (refine gcond rfl (fun h => ?_) (fun h => ?_) <;> (first | exact h.elim | (exfalso; omega) | exact absurd h (by assumption) | exact absurd (by assumption) h | skip)) | refine gblk ?_)
   | (refine kN ?_; first | refine gthen ?_ | refine gnblk ?_)
   | (refine kR ?_; first | refine grs ?_ | refine grb ?_ | refine grc ?_)
   | (refine kR ?_; refine grm rfl rv0 () ?_ ?_ rfl rfl Ent.nil ?_; all_goals try infer_instance)
   | (refine kN ?_; refine gnm rfl () ?_ ?_ rfl rfl Ent.nil ?_; all_goals try infer_instance)
   | exact Pre.mk (pre1 (by first | omega | (rw [hsl]; omega) | (rw [hs2]; omega) | (have := boolC_len; grind)))
   | (refine Pre.mk ?_; first | exact True.intro | omega | ((repeat' (first | refine And.intro ?_ ?_ | exact True.intro | assumption | omega)); done) | (simp only [and_true, true_and, or_true, true_or]; first | done | omega))
   | (refine kD ?_; first | exact dm_none | exact dm0 | refine dmOff rfl ?_ | refine dmOn (lvb rfl rfl) ?_ | refine dmOn (lvB rfl rfl rfl) ?_ | refine dmOn (lve rfl rfl) ?_ | refine dmOn (lvE rfl rfl rfl) ?_ | refine dmOn (lva rfl rfl rfl rfl rfl) ?_))
  · rename_i x hx _ _ _ _ _ _ m hm
    refine ⟨?_, trivial⟩
    show m.ab = _
    unfold hashM
    rw [if_pos h, hm.1, ← hx.1, ← hx.2.2.2.1]; try rfl
  · rename_i x hx _ _ _ _ _ _ m hm
    refine ⟨?_, trivial⟩
    show m.ab = _
    unfold hashM
    rw [if_neg (by omega), if_pos h, hm.1, ← hx.1, ← hx.2.2.2.1]; try rfl
  · rename_i m hm
    rename MG × Ow BsG => x
    rename (x.1.ab = _ ∧ _) => hx
    refine ⟨?_, trivial⟩
    show m.ab = _
    unfold hashM
    have e : (ixd x.2.gs 1).2.length = 32 := by omega
    rw [if_neg (by omega), if_neg (by omega), if_pos (by omega), hm.1, ← hx.1, ← hx.2.2.2.1, ← hx.2.2.2.2.1, toH_l e]
    simp only [e, true_and]; try rfl
  · rename_i m hm
    rename MG × Ow BsG => x
    rename (x.1.ab = _ ∧ _) => hx
    refine ⟨?_, trivial⟩
    show m.ab = _
    unfold hashM
    have e : ¬ (ixd x.2.gs 1).2.length = 32 := by omega
    rw [if_neg (by omega), if_neg (by omega), if_pos (by omega), hm.1, ← hx.1, ← hx.2.2.2.1, ← hx.2.2.2.2.1]
    simp only [e, false_and, decide_false]; try rfl
  · rename_i x hx _ _ m1 hm1 m hm
    refine ⟨?_, trivial⟩
    show m.ab = _
    unfold hashM
    rw [if_neg (by omega), if_neg (by omega), if_neg (by omega), if_pos h, hm.1, ← hx.1, ← hx.2.2.2.1]
    exact congrArg (fun t => failM t _) hm1.1
  · refine ⟨?_, trivial⟩
    show _ = hashM (abM gs ps e) op ht dg
    unfold hashM
    rw [if_neg (by omega), if_neg (by omega), if_neg (by omega), if_neg h]
instance c_m_hashes {w0 : World} {X : Nat → Prop} {L rest : List Assn} {g : Nat} {ht : Int} {dg : List UInt8} {S P : Sv} {gs : List BsG} {ps : List (Int × Bool)} {e : Int} [hdg : LenIs dg 32] [hb : FBox L g 57 [Cs.one (Value.slice (Sv.A S) (List.length gs) (Sv.c S)), Cs.one (Value.slice (Sv.A P) (List.length ps) (Sv.c P)), Cs.one (Value.int IntKind.u32 ht), Cs.blk 32 (Rep.all RB dg), Cs.one (Value.int IntKind.i64 e)]] [hs : Spl L (boxA g 57 [Cs.one (Value.slice (Sv.A S) (List.length gs) (Sv.c S)), Cs.one (Value.slice (Sv.A P) (List.length ps) (Sv.c P)), Cs.one (Value.int IntKind.u32 ht), Cs.blk 32 (Rep.all RB dg), Cs.one (Value.int IntKind.i64 e)] :: rw_ 22 RBs S (List.length gs) gs :: lot (List.map bsRow gs) :: rw_ 80 RPt P (List.length ps) (List.reverse ps) :: ([])) rest] [hk : StkI gs] [hh : HowI ps] [i_K : KR w0 X rest] {op : Int} :
    Ctr Tryd.prog 55 [.pointer (some ⟨g, 0, none⟩), .int .u8 op] w0 X L ((0 ≤ op ∧ op ≤ 255) ∧ 0 ≤ ht ∧ ht ≤ 4294967295) (fun r : MG => .tuple #[]) (fun r => (boxA g 57 [Cs.one (Value.slice (Sv.A (MG.st r)) (List.length (MG.gs r)) (Sv.c (MG.st r))), Cs.one (Value.slice (Sv.A (MG.pt r)) (List.length (MG.ps r)) (Sv.c (MG.pt r))), Cs.one (Value.int IntKind.u32 ht), Cs.blk 32 (Rep.all RB dg), Cs.one (Value.int IntKind.i64 (MG.e r))] :: rw_ 22 RBs (MG.st r) (List.length (MG.gs r)) (MG.gs r) :: lot (List.map bsRow (MG.gs r)) :: rw_ 80 RPt (MG.pt r) (List.length (MG.ps r)) (List.reverse (MG.ps r)) :: rest)) (fun r => MG.ab r = hashM (abM gs ps e) op ht dg ∧ True) :=
  ⟨by kernel_rfl, fun hp w hw => by
    obtain ⟨Y, h1, h2⟩ := hw.lendS hs
    have hr := (h2 _ _ h1).dropN
    refine (m_hashes (i_K := fun L' => KR.lentR h2 i_K L') h1 hp).mono fun _ w' ⟨r, he, hst, hφ⟩ => ?_
    obtain ⟨m', e0⟩ := r
    obtain ⟨hm, _⟩ := hφ
    exact ⟨m', he, h2 _ _ hst, hm, trivial⟩⟩
end Go.Proofs.YtkjpemkankefnaaDoor
