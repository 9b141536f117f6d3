/-
  exec's machine: steps.
-/
import Derived.Test.YtkjpemkankefnaaDoorEl
set_option linter.all false
set_option maxRecDepth 100000
set_option maxHeartbeats 4000000
namespace Go.Proofs.YtkjpemkankefnaaDoor
open Go.RowKit

def stepM (m : MM) (op : Int) (u : List UInt8) (ht : Int) (dg : List UInt8) : MM :=
  if op = 1 then pushM m [u]
  else if op = 5 then failM (popM m 1) (trueB ((popL m 1).getD 0 []))
  else if op = 7 then pushM (popM m 1) [(popL m 1).getD 0 [], (popL m 1).getD 0 []]
  else if op = 8 then popM m 1
  else if op = 9 then pushM (popM m 2) [(popL m 2).getD 1 [], (popL m 2).getD 0 []]
  else if op = 10 then pushM (popM m 1) [(popL m 1).getD 0 [], cellB ((popL m 1).getD 0 []).length]
  else if op = 11 then pushM (popM m 2) [boolC (decide ((popL m 2).getD 0 [] = (popL m 2).getD 1 []))]
  else if op = 12 then pushM (popM m 1) [boolC (!trueB ((popL m 1).getD 0 []))]
  else if 13 ≤ op ∧ op ≤ 16 then pushM (failM (numM (numM (popM m 2) ((popL m 2).getD 0 [])) ((popL m 2).getD 1 [])) (decide (twoE op (numN ((popL m 2).getD 0 [])) (numN ((popL m 2).getD 1 [])) = 0))) [cellB (twoN op (numN ((popL m 2).getD 0 [])) (numN ((popL m 2).getD 1 [])))]
  else hashM m op ht dg
theorem m_step {w0 : World} {Y : Nat → Prop} {g : Nat} {ht : Int} {dg : List UInt8} [hdg : LenIs dg 32] {S P : Sv} {gs : List BsG} {ps : List (Int × Bool)} {e : Int} [hk : StkI gs] [hh : HowI ps] [i_K : ∀ L', KR w0 Y L'] {op : Int} {uA : Option Addr} {uc : Nat} {u : List UInt8} [i_u : ∀ L', Rw w0 Y L' (.slice uA u.length uc) RB u] (hst : St w0 Y (boxA g 57 [Cs.one (Value.slice (Sv.A S) (List.length gs) (Sv.c S)), Cs.one (Value.slice (Sv.A P) (List.length ps) (Sv.c P)), Cs.one (Value.int IntKind.u32 ht), Cs.blk 32 (Rep.all RB dg), Cs.one (Value.int IntKind.i64 e)] :: rw_ 22 RBs S (List.length gs) gs :: lot (List.map bsRow gs) :: rw_ 80 RPt P (List.length ps) (List.reverse ps) :: ([])) w0) (hp : (0 ≤ op ∧ op ≤ 255) ∧ (0 ≤ ht ∧ ht ≤ 4294967295) ∧ u.length ≤ 140737488351232) :
    Ct Tryd.prog 33 [.pointer (some ⟨g, 0, none⟩), Ag [.one (.int .u8 op), .one (.slice uA u.length uc)]] w0 Y (fun r : MG × Unit => .tuple #[]) (fun r => (boxA g 57 [Cs.one (Value.slice (Sv.A (MG.st r.1)) (List.length (MG.gs r.1)) (Sv.c (MG.st r.1))), Cs.one (Value.slice (Sv.A (MG.pt r.1)) (List.length (MG.ps r.1)) (Sv.c (MG.pt r.1))), Cs.one (Value.int IntKind.u32 ht), Cs.blk 32 (Rep.all RB dg), Cs.one (Value.int IntKind.i64 (MG.e r.1))] :: rw_ 22 RBs (MG.st r.1) (List.length (MG.gs r.1)) (MG.gs r.1) :: lot (List.map bsRow (MG.gs r.1)) :: rw_ 80 RPt (MG.pt r.1) (List.length (MG.ps r.1)) (List.reverse (MG.ps r.1)) :: ([]))) (fun r => MG.ab r.1 = stepM (abM gs ps e) op u ht dg ∧ True) := by
  have hML := ML_len hst
  refine genter _ hst Tryd.func33 rfl rfl rfl rfl ?_
  have hbl := boolC_len
  have hcl := cellB_len
  repeat' (first
   | (refine kO ?_; first | refine gbs RBs rfl rfl rfl rfl rfl rfl (fun _ => ?_) (fun _ => ?_) | refine gv rfl rfl ?_ | refine gnil ?_ | refine gnilD ?_ | refine gl rfl (lvb rfl rfl) rfl (fun _ => ?_) | refine gl rfl (lvB rfl rfl rfl) rfl (fun _ => ?_) | refine gl rfl (lve rfl rfl) rfl (fun _ => ?_) | refine gl rfl (lvE rfl rfl rfl) rfl (fun _ => ?_) | refine gl rfl (lva rfl rfl rfl rfl rfl) rfl (fun _ => ?_) | refine gp rfl (by (try simp only [InR]); omega) rfl ?_ | refine gf rfl rfl rfl ?_ | refine gix rfl rfl rfl rfl (by omega) rfl (fun _ => ?_) | refine gixa rfl rfl rfl rfl (by omega) rfl (fun _ => ?_) | (refine kK ?_; first | refine gcall rfl ?_ rfl (fun _ _ => ?_) (fun _ _ => ?_) | refine gcv rfl rfl ?_ rfl (fun _ _ => ?_) (fun _ _ => ?_) | refine gcc1 rfl rfl ?_ rfl (fun _ _ => ?_) (fun _ _ => ?_)) | refine geql rfl rfl (by kernel_rfl) ?_ rfl ?_ | refine gx rfl rfl (fun _ => ?_) (fun _ => ?_) | refine gbs RB rfl rfl rfl rfl rfl rfl (fun _ => ?_) (fun _ => ?_) | refine gbb rfl rfl rfl (by first | (simp; done) | (simp only [and_true]; omega)) rfl rfl rfl rfl (fun _ => ?_) (fun _ => ?_))
   | (refine kC ?_; first | refine gseq ?_ | refine greg ?_ | refine gret ?_ | refine gskip ?_ | refine gdraw (id := 17) [0,1,2,3,4,5,6,7,8] (by kernel_rfl) (by kernel_rfl) rfl ?_ | refine gdraw (id := 20) [0,1,2,3,4,5,6,7,8] (by kernel_rfl) (by kernel_rfl) rfl ?_ | refine gdraw (id := 22) [0,1,2,3,4,5,6,7,8,9,10] (by kernel_rfl) (by kernel_rfl) rfl ?_ | refine gdraw (id := 24) [0,1,2,3,4,5,6,7,8,9,10] (by kernel_rfl) (by kernel_rfl) rfl ?_ | refine gdraw (id := 27) [0,1,2,3,4,5,7,8,9,10,6,11,12,13,14,15,16,17] (by kernel_rfl) (by kernel_rfl) rfl ?_ | (refine gcond rfl (fun h => ?_) (fun h => ?_) <;> (first | exact h.elim | (exfalso; omega) | exact absurd h (by assumption) | exact absurd (by assumption) h | skip)) | refine gblk ?_ | refine gexit ?_)
   | (refine kN ?_; first | refine gthen ?_ | refine gnblk ?_)
   | (refine kR ?_; first | refine grs ?_ | refine grb ?_ | refine grc ?_)
   | (refine kX ?_; first | refine gxs ?_ | refine gxb ?_ | refine gxn rfl ?_ | refine gxl ?_ | refine gxc ?_)
   | (refine kR ?_; refine grm rfl rv0 () ?_ ?_ rfl rfl Ent.nil ?_; all_goals try infer_instance)
   | (refine kN ?_; refine gnm rfl () ?_ ?_ rfl rfl Ent.nil ?_; all_goals try infer_instance)
   | exact Pre.mk (pre1 (by first | (dsimp only; omega) | (have := boolC_len; have := cellB_len; grind)))
   | exact Pre.mk (pre2 (by first | (dsimp only; omega) | (have := cellB_len; grind)) (by first | (dsimp only; omega) | (have := cellB_len; grind)))
   | (refine Pre.mk ?_; first | exact True.intro | omega | ((repeat' (first | refine And.intro ?_ ?_ | exact True.intro | assumption | omega)); done) | (simp only [and_true, true_and, or_true, true_or]; first | done | omega))
   | (refine kD ?_; first | exact dm_none | exact dm0 | refine dmOff rfl ?_ | refine dmOn (lvb rfl rfl) ?_ | refine dmOn (lvB rfl rfl rfl) ?_ | refine dmOn (lve rfl rfl) ?_ | refine dmOn (lvE rfl rfl rfl) ?_ | refine dmOn (lva rfl rfl rfl rfl rfl) ?_))
  · rename_i m hm
    exact ⟨hm.1.trans (by unfold stepM; rw [if_pos h]; try rfl), trivial⟩
  · rename_i m hm
    rename MG × Ow BsG => x
    rename (x.1.ab = _ ∧ _) => hx
    refine ⟨?_, trivial⟩
    show m.ab = _
    unfold stepM
    rw [if_neg (by omega), if_pos h, hm.1, ← hx.1, ← hx.2.2.2.1]; try rfl
  · rename_i m hm
    rename MG × Ow BsG => x
    rename (x.1.ab = _ ∧ _) => hx
    refine ⟨?_, trivial⟩
    show m.ab = _
    unfold stepM
    rw [if_neg (by omega), if_neg (by omega), if_pos h, hm.1, ← hx.1, ← hx.2.2.2.1]; try rfl
  · rename_i x hx
    exact ⟨hx.1.trans (by unfold stepM; rw [if_neg (by omega), if_neg (by omega), if_neg (by omega), if_pos h]), trivial⟩
  · rename_i m hm
    rename MG × Ow BsG => x
    rename (x.1.ab = _ ∧ _) => hx
    refine ⟨?_, trivial⟩
    show m.ab = _
    unfold stepM
    rw [if_neg (by omega), if_neg (by omega), if_neg (by omega), if_neg (by omega), if_pos h, hm.1, ← hx.1, ← hx.2.2.2.1, ← hx.2.2.2.2.1]; try rfl
  · rename_i m hm
    rename MG × Ow BsG => x
    rename (x.1.ab = _ ∧ _) => hx
    refine ⟨?_, trivial⟩
    show m.ab = _
    unfold stepM
    rw [if_neg (by omega), if_neg (by omega), if_neg (by omega), if_neg (by omega), if_neg (by omega), if_pos h, hm.1, ← hx.1, ← hx.2.2.2.1]; try rfl
  · rename_i m hm
    rename MG × Ow BsG => x
    rename (x.1.ab = _ ∧ _) => hx
    refine ⟨?_, trivial⟩
    show m.ab = _
    unfold stepM
    rw [if_neg (by omega), if_neg (by omega), if_neg (by omega), if_neg (by omega), if_neg (by omega), if_neg (by omega), if_pos h, hm.1, ← hx.1, ← hx.2.2.2.1, ← hx.2.2.2.2.1]; try rfl
  · rename_i m hm
    rename MG × Ow BsG => x
    rename (x.1.ab = _ ∧ _) => hx
    refine ⟨?_, trivial⟩
    show m.ab = _
    unfold stepM
    rw [if_neg (by omega), if_neg (by omega), if_neg (by omega), if_neg (by omega), if_neg (by omega), if_neg (by omega), if_neg (by omega), if_pos h, hm.1, ← hx.1, ← hx.2.2.2.1]; try rfl
  · rename_i m1 hm1 m2 hm2 _ _ m3 hm3 _ _ _ m hm
    rename MG × Ow BsG => x
    rename (x.1.ab = _ ∧ _) => hx
    refine ⟨?_, trivial⟩
    show m.ab = _
    unfold stepM
    rw [if_neg (by omega), if_neg (by omega), if_neg (by omega), if_neg (by omega), if_neg (by omega), if_neg (by omega), if_neg (by omega), if_neg (by omega), if_pos (by omega), hm.1, ← hx.1, ← hx.2.2.2.1, ← hx.2.2.2.2.1, show abM m3.gs m3.ps m3.e = _ from hm3.1, show abM m2.gs m2.ps m2.e = _ from hm2.1, show abM m1.gs m1.ps m1.e = _ from hm1.1]; try rfl
  · rename_i m1 hm1 m2 hm2 _ _ m3 hm3 _ _ _ m hm
    rename MG × Ow BsG => x
    rename (x.1.ab = _ ∧ _) => hx
    refine ⟨?_, trivial⟩
    show m.ab = _
    unfold stepM
    rw [if_neg (by omega), if_neg (by omega), if_neg (by omega), if_neg (by omega), if_neg (by omega), if_neg (by omega), if_neg (by omega), if_neg (by omega), if_pos (by omega), hm.1, ← hx.1, ← hx.2.2.2.1, ← hx.2.2.2.2.1, show abM m3.gs m3.ps m3.e = _ from hm3.1, show abM m2.gs m2.ps m2.e = _ from hm2.1, show abM m1.gs m1.ps m1.e = _ from hm1.1]; try rfl
  · rename_i m1 hm1 m2 hm2 _ _ m3 hm3 _ _ _ m hm
    rename MG × Ow BsG => x
    rename (x.1.ab = _ ∧ _) => hx
    refine ⟨?_, trivial⟩
    show m.ab = _
    unfold stepM
    rw [if_neg (by omega), if_neg (by omega), if_neg (by omega), if_neg (by omega), if_neg (by omega), if_neg (by omega), if_neg (by omega), if_neg (by omega), if_pos (by omega), hm.1, ← hx.1, ← hx.2.2.2.1, ← hx.2.2.2.2.1, show abM m3.gs m3.ps m3.e = _ from hm3.1, show abM m2.gs m2.ps m2.e = _ from hm2.1, show abM m1.gs m1.ps m1.e = _ from hm1.1]; try rfl
  · rename_i m1 hm1 m2 hm2 _ _ m3 hm3 _ _ _ m hm
    rename MG × Ow BsG => x
    rename (x.1.ab = _ ∧ _) => hx
    refine ⟨?_, trivial⟩
    show m.ab = _
    unfold stepM
    rw [if_neg (by omega), if_neg (by omega), if_neg (by omega), if_neg (by omega), if_neg (by omega), if_neg (by omega), if_neg (by omega), if_neg (by omega), if_pos (by omega), hm.1, ← hx.1, ← hx.2.2.2.1, ← hx.2.2.2.2.1, show abM m3.gs m3.ps m3.e = _ from hm3.1, show abM m2.gs m2.ps m2.e = _ from hm2.1, show abM m1.gs m1.ps m1.e = _ from hm1.1]; try rfl
  · rename_i m hm
    exact ⟨hm.1.trans (by unfold stepM; rw [if_neg (by omega), if_neg (by omega), if_neg (by omega), if_neg (by omega), if_neg (by omega), if_neg (by omega), if_neg (by omega), if_neg (by omega), if_neg (by omega)]), trivial⟩
instance c_m_step {w0 : World} {X : Nat → Prop} {L rest : List Assn} {g : Nat} {ht : Int} {dg : List UInt8} {S P : Sv} {gs : List BsG} {ps : List (Int × Bool)} {e : Int} [hdg : LenIs dg 32] [hb : FBox L g 57 [Cs.one (Value.slice (Sv.A S) (List.length gs) (Sv.c S)), Cs.one (Value.slice (Sv.A P) (List.length ps) (Sv.c P)), Cs.one (Value.int IntKind.u32 ht), Cs.blk 32 (Rep.all RB dg), Cs.one (Value.int IntKind.i64 e)]] [hs : Spl L (boxA g 57 [Cs.one (Value.slice (Sv.A S) (List.length gs) (Sv.c S)), Cs.one (Value.slice (Sv.A P) (List.length ps) (Sv.c P)), Cs.one (Value.int IntKind.u32 ht), Cs.blk 32 (Rep.all RB dg), Cs.one (Value.int IntKind.i64 e)] :: rw_ 22 RBs S (List.length gs) gs :: lot (List.map bsRow gs) :: rw_ 80 RPt P (List.length ps) (List.reverse ps) :: ([])) rest] [hk : StkI gs] [hh : HowI ps] [i_K : KR w0 X rest] {op : Int} {uA : Option Addr} {uc un : Nat} {u : List UInt8} [i_u : Rw w0 X rest (.slice uA un uc) RB u] :
    Ctr Tryd.prog 33 [.pointer (some ⟨g, 0, none⟩), Ag [.one (.int .u8 op), .one (.slice uA un uc)]] w0 X L ((0 ≤ op ∧ op ≤ 255) ∧ (0 ≤ ht ∧ ht ≤ 4294967295) ∧ u.length ≤ 140737488351232) (fun r : MG => .tuple #[]) (fun r => (boxA g 57 [Cs.one (Value.slice (Sv.A (MG.st r)) (List.length (MG.gs r)) (Sv.c (MG.st r))), Cs.one (Value.slice (Sv.A (MG.pt r)) (List.length (MG.ps r)) (Sv.c (MG.pt r))), Cs.one (Value.int IntKind.u32 ht), Cs.blk 32 (Rep.all RB dg), Cs.one (Value.int IntKind.i64 (MG.e r))] :: rw_ 22 RBs (MG.st r) (List.length (MG.gs r)) (MG.gs r) :: lot (List.map bsRow (MG.gs r)) :: rw_ 80 RPt (MG.pt r) (List.length (MG.ps r)) (List.reverse (MG.ps r)) :: rest)) (fun r => MG.ab r = stepM (abM gs ps e) op u ht dg ∧ True) :=
  ⟨by kernel_rfl, fun hp w hw => by
    obtain ⟨Y, h1, h2⟩ := hw.lendS hs
    have hr := (h2 _ _ h1).dropN
    have eu := i_u.len hr; subst eu; refine (m_step (i_K := fun L' => KR.lentR h2 i_K L') (i_u := fun L' => Rw.lentR h2 i_u L') h1 hp).mono fun _ w' ⟨r, he, hst, hφ⟩ => ?_
    obtain ⟨m', e0⟩ := r
    obtain ⟨hm, _⟩ := hφ
    exact ⟨m', he, h2 _ _ hst, hm, trivial⟩⟩
end Go.Proofs.YtkjpemkankefnaaDoor
