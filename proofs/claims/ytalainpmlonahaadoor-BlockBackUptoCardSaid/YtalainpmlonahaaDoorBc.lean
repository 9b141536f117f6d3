/-
  The root of a list of hashes.
-/
import Derived.Test.YtalainpmlonahaaDoorBp
import Derived.Test.YtalainpmlonahaaDoorMc
import Derived.Test.YtalainpmlonahaaDoorVshaS
import Derived.Test.YtalainpmlonahaaDoorVcat
import Derived.Test.YtalainpmlonahaaDoorVtxP
set_option linter.all false
set_option maxRecDepth 100000
set_option maxHeartbeats 4000000
namespace Go.Proofs.YtalainpmlonahaaDoor
open Go.RowKit

theorem merkle_both (a : List UInt8) [ha : LenIs a 32] (b : List UInt8) [hb : LenIs b 32] (w0 : World) (hK : KOk w0)  :
    Ct Tryd.prog 84 [Ag [.blk 32 (RB.all a)], Ag [.blk 32 (RB.all b)]] w0 no (fun ((e0) : List UInt8) => Ag [.blk 32 (RB.all e0)]) (fun (e0) => []) (fun (e0) => e0 = (sha2 (a ++ b)).l) := by
  have hst := St.start w0
  have j_hK := KR.old hK
  refine genter _ hst Tryd.func84 rfl rfl rfl rfl ?_
  have l1 := ha.h
  have l2 := hb.h
  have hc : ∀ s1 s2 : Sv, (catL [(s1, a), (s2, b)]).length ≤ 140737488351232 := fun s1 s2 => by
    simp only [catL, List.flatMap_cons, List.flatMap_nil, List.length_append, List.length_nil]; omega
  have hc2 : ∀ s1 s2 : Sv, catL [(s1, a), (s2, b)] = a ++ b := fun s1 s2 => by simp [catL]
  repeat' (first
   | refine gdraw (id := 1) [0,1,2,3,4,5] (by kernel_rfl) (by kernel_rfl) rfl ?_
   | (refine kO ?_; first | refine gcal rfl rfl rfl rfl ?_ | refine gbs RBs rfl rfl rfl rfl rfl rfl (fun _ => ?_) (fun _ => ?_))
   | (refine z1 ?_; intros)
   | (refine z2 ?_ ?_ <;> first | exact zi | intro h | skip)
   | (refine kR ?_; refine zr (_) ?_)
   | (refine kO ?_; refine zc ?_ ?_ <;> intros)
   | exact Pre.mk (hc _ _)
   | (refine kD ?_; exact dz))
  all_goals rw [hc2]
instance c_merkle_both {a : List UInt8} {b : List UInt8} {w0 : World} {X : Nat → Prop} {L : List Assn} [hK : KR w0 X L] [ha : LenIs a 32] [hb : LenIs b 32] : Ctr Tryd.prog 84 [Ag [.blk 32 (RB.all a)], Ag [.blk 32 (RB.all b)]] w0 X L (True) (fun _ : Unit => Ag [.blk 32 (RB.all (sha2 (a ++ b)).l)]) (fun _ : Unit => L) (fun _ : Unit => True) :=
  ctr' (M' := (fun _ : Unit => [])) (by kernel_rfl) (fun hp w hw => by exact merkle_both _ _ w (hK.get w hw)) (by rintro hp e0 rfl ok; exact ⟨(), rfl, rfl, trivial⟩)
theorem merkle_above (lA : Option Addr) (lc : Nat) (l : List Hsh) (w0 : World) (hK : KOk w0) (hl : Slr w0 RHs (.slice lA l.length lc) l) (hp : l.length ≤ 1048576) :
    Ct Tryd.prog 55 [.slice lA l.length lc] w0 no (fun ((⟨s0, n0, x0⟩, e1) : Br Hsh × Bool) => .tuple #[.slice s0.A n0 s0.c, .bool e1]) (fun (⟨s0, n0, x0⟩, e1) => [rw_ 30 RHs s0 n0 x0]) (fun (⟨s0, n0, x0⟩, e1) => x0 = (upL l) ∧ e1 = upS l) := by
  have hst := St.start w0
  have j_hK := KR.old hK
  have i_l := Rw.old hl
  refine genter _ hst Tryd.func55 rfl rfl rfl rfl ?_
  repeat' (first
   | refine gdraw (id := 7) [0,1,2,3,4,5,6,7,8,9,10,11,12,13,14,15,16,17] (by kernel_rfl) (by kernel_rfl) rfl ?_
   | refine gdraw (id := 8) [0,1,2,3,4,5,6,7,8,9,10,11,12] (by kernel_rfl) (by kernel_rfl) rfl ?_
   | (refine z1 ?_; intros)
   | (refine z2 ?_ ?_ <;> first | exact zi | intro h | skip)
   | (refine kR ?_; refine zr (⟨⟨_, _⟩, _, _⟩, _) ?_)
   | (refine kO ?_; refine zc ?_ ?_ <;> intros))
  refine gloop2 [0] (fun (j : Nat) (s : Sv) K => (4, .slice s.A j s.c) :: (5, .bool (upS (l.take (2 * j)))) :: (6, .int .i64 (2 * (j : Int))) :: K) (fun j s => [rw_ 30 RHs s j (upL (l.take (2 * j)))]) (fun j s => 2 * j ≤ l.length + 1) (fun j s => l.length + 2 - 2 * j) 0 ⟨none, 0⟩ rfl (by repeat (first | exact trivial | refine ⟨rfl, ?_⟩)) (er0 Ent.nil) (by omega) (fun j s hj => ?_)
  by_cases hlt : 2 * j < l.length
  · have e0 : 2 * (j + 1) = 2 * j + 2 := by omega
    have c0 : 2 * ((j + 1 : Nat) : Int) = 2 * (j : Int) + 2 := by omega
    have c1 : (2 * (j : Int)).toNat = 2 * j := by omega
    have hs : ∀ m : Int, (m ≤ 2 * (j : Int) + 1 ∧ m ≤ (l.length : Int) - 1 ∧ (m = 2 * (j : Int) + 1 ∨ m = (l.length : Int) - 1)) → upS (l.take (2 * (j + 1))) = (upS (l.take (2 * j)) && (decide (m = 2 * (j : Int)) || !decide ((ixd l (2 * (j : Int))).l = (ixd l m).l ∧ True))) := fun m hm => by
      have e : m = min (((2 * j : Nat) : Int) + 1) ((l.length : Int) - 1) := by omega
      have e2 : ((2 * j : Nat) : Int) = 2 * (j : Int) := by omega
      rw [e0, upS_step hlt, prS, ← e, e2]
      congr 2
      by_cases hh : (ixd l (2 * (j : Int))).l = (ixd l m).l
      · have := Hsh.ext hh; simp [this]
      · have : ixd l (2 * (j : Int)) ≠ ixd l m := fun h => hh (by rw [h])
        simp [this, hh]
    have hu : ∀ m : Int, (m ≤ 2 * (j : Int) + 1 ∧ m ≤ (l.length : Int) - 1 ∧ (m = 2 * (j : Int) + 1 ∨ m = (l.length : Int) - 1)) → upL (l.take (2 * (j + 1))) = upL (l.take (2 * j)) ++ [sha2 ((ixd l (2 * (j : Int))).l ++ (ixd l m).l)] := fun m hm => by
      have e : m = min (((2 * j : Nat) : Int) + 1) ((l.length : Int) - 1) := by omega
      have e2 : ((2 * j : Nat) : Int) = 2 * (j : Int) := by omega
      rw [e0, upL_step hlt, ← e, e2]; rfl
    repeat' (first
     | refine gdraw (id := 7) [0,1,2,3,4,5,6,7,8,9,10,11,12,13,14,15,16,17] (by kernel_rfl) (by kernel_rfl) rfl ?_
     | refine gdraw (id := 8) [0,1,2,3,4,5,6,7,8,9,10,11,12] (by kernel_rfl) (by kernel_rfl) rfl ?_
     | refine gbs RHs rfl rfl rfl rfl rfl rfl (fun _ => ?_) (fun _ => ?_)
     | (refine z1 ?_; intros)
     | (refine z2 ?_ ?_ <;> first | exact zi | intro h | skip)
     | (refine kR ?_; refine zr (⟨⟨_, _⟩, _, _⟩, _) ?_)
     | (refine kO ?_; refine zc ?_ ?_ <;> intros)
     | (refine kD ?_; exact dz))
    · rename_i s'
      rename _ ∧ _ ∧ (_ = 2 * (j : Int) + 1 ∨ _) => hm
      rename upS _ = _ => h5
      rename ¬ (_ : Int) = 2 * (j : Int) => h8
      exact gnl2 (j + 1) s' (by rw [c0, hs _ hm, h5, decide_eq_false h8, Bool.true_and, Bool.false_or]; exact ⟨rfl, ⟨by show some (Value.bool _) = some (Value.bool _); congr, by repeat (first | exact trivial | refine ⟨rfl, ?_⟩)⟩⟩) (by rw [hu _ hm]; exact er Ent.nil) (by omega) (by omega)
    · rename_i s'
      rename _ ∧ _ ∧ (_ = 2 * (j : Int) + 1 ∨ _) => hm
      rename upS _ = _ => h5
      rename (_ : Int) = 2 * (j : Int) => h8
      exact gnl2 (j + 1) s' (by rw [c0, hs _ hm, h5, decide_eq_true h8, Bool.true_and, Bool.true_or]; exact (by repeat (first | exact trivial | refine ⟨rfl, ?_⟩))) (by rw [hu _ hm]; exact er Ent.nil) (by omega) (by omega)
    · rename_i s'
      rename _ ∧ _ ∧ (_ = 2 * (j : Int) + 1 ∨ _) => hm
      rename upS _ = _ => h5
      exact gnl2 (j + 1) s' (by rw [c0, hs _ hm, h5, Bool.false_and]; exact (by repeat (first | exact trivial | refine ⟨rfl, ?_⟩))) (by rw [hu _ hm]; exact er Ent.nil) (by omega) (by omega)
  · have e : l.take (2 * j) = l := List.take_of_length_le (by omega)
    rw [e]
    repeat' (first
     | refine gdraw (id := 7) [0,1,2,3,4,5,6,7,8,9,10,11,12,13,14,15,16,17] (by kernel_rfl) (by kernel_rfl) rfl ?_
     | refine gdraw (id := 8) [0,1,2,3,4,5,6,7,8,9,10,11,12] (by kernel_rfl) (by kernel_rfl) rfl ?_
     | (refine z1 ?_; intros)
     | (refine z2 ?_ ?_ <;> first | exact zi | intro h | skip)
     | (refine kR ?_; refine zr (⟨⟨_, _⟩, _, _⟩, _) ?_)
     | (refine kO ?_; refine zc ?_ ?_ <;> intros))
    all_goals exact ⟨rfl, rfl⟩
instance c_merkle_above {lA : Option Addr} {lc ln : Nat} {l : List Hsh} {w0 : World} {X : Nat → Prop} {L : List Assn} [hK : KR w0 X L] [hl : Rw w0 X L (.slice lA ln lc) RHs l] : Ctr Tryd.prog 55 [.slice lA ln lc] w0 X L (l.length ≤ 1048576) (fun s0 : Sv => .tuple #[.slice s0.A (upL l).length s0.c, .bool (upS l)]) (fun s0 : Sv => rw_ 30 RHs s0 (upL l).length (upL l) :: L) (fun s0 : Sv => True) :=
  ctr' (M' := (fun s0 : Sv => [rw_ 30 RHs s0 (upL l).length (upL l)])) (by kernel_rfl) (fun hp w hw => by have el := hl.len hw; subst el; exact merkle_above _ _ _ w (hK.get w hw) (hl.get w hw) hp) (by rintro hp ⟨⟨s0, n0, x0⟩, e1⟩ ⟨rfl, rfl⟩ ok; cases ok.row; exact ⟨s0, rfl, rfl, trivial⟩)
/-- the rows, one above the other -/
abbrev RtS := Option (Sv × List Hsh)
def rtL (l : List Hsh) : RtS → List Hsh
  | none => l
  | some (_, g) => g
def rtV (A : Option Addr) (n c : Nat) : RtS → Value
  | none => .slice A n c
  | some (s, g) => .slice s.A g.length s.c
def rtM : RtS → List Assn
  | none => []
  | some (s, g) => [rw_ 30 RHs s g.length g]
theorem merkle_Root (lA : Option Addr) (lc : Nat) (l : List Hsh) (w0 : World) (hK : KOk w0) (hl : Slr w0 RHs (.slice lA l.length lc) l) (hp : l.length ≤ 1048576) :
    Ct Tryd.prog 30 [.slice lA l.length lc] w0 no (fun ((e0, e1) : List UInt8 × Bool) => .tuple #[Ag [.blk 32 (RB.all e0)], .bool e1]) (fun (e0, e1) => []) (fun (e0, e1) => e0 = ((rootF l).1).l ∧ e1 = (rootF l).2) := by
  have hst := St.start w0
  have j_hK := KR.old hK
  have i_l := Rw.old hl
  refine genter _ hst Tryd.func30 rfl rfl rfl rfl ?_
  repeat' (first
   | refine gscope0 ?_
   | (refine z1 ?_; intros)
   | (refine z2 ?_ ?_ <;> first | exact zi | intro h | skip)
   | (refine kR ?_; refine zr (_, _) ?_)
   | (refine kO ?_; refine zc ?_ ?_ <;> intros))
  · rw [rootF_0 (by omega)]; exact ⟨rfl, rfl⟩
  · rename_i g
    refine gloop [2] (fun (x : RtS) K => (0, rtV lA l.length lc x) :: K) (fun x => rtM x ++ [boxA g 30 [.blk 32 (RB.all (List.replicate 32 0))]]) (fun x => rootF (rtL l x) = rootF l ∧ 1 ≤ (rtL l x).length ∧ (rtL l x).length ≤ 1048576) (fun x => (rtL l x).length) none rfl (by repeat (first | exact trivial | refine ⟨rfl, ?_⟩)) (eb Ent.nil) ⟨rfl, by simp only [rtL]; omega, hp⟩ (fun x hx => ?_)
    obtain ⟨h1, h2, h3⟩ := hx
    have hul := upL_len (rtL l x)
    rcases x with _ | ⟨s, gs⟩
    · simp only [rtL, rtV, rtM, List.nil_append] at h1 h2 h3 hul ⊢
      repeat' (first
       | refine gscope0 ?_
       | (refine z1 ?_; intros)
       | (refine z2 ?_ ?_ <;> first | exact zi | intro h | skip)
       | (refine kR ?_; refine zr (_, _) ?_)
       | (refine kO ?_; refine zc ?_ ?_ <;> intros))
      · rw [rootF_1 (by omega)]; exact ⟨rfl, rfl⟩
      · rw [rootF_no (by omega) h]; exact ⟨rfl, rfl⟩
      · rename_i s' _
        refine gnl (some (s', upL l)) (by repeat (first | exact trivial | refine ⟨rfl, ?_⟩)) (er (eb Ent.nil)) ⟨(rootF_up (by omega) h).symm, ?_, ?_⟩ ?_ <;> simp only [rtL] <;> omega
    · simp only [rtL, rtV, rtM, List.cons_append, List.nil_append] at h1 h2 h3 hul ⊢
      repeat' (first
       | refine gscope0 ?_
       | (refine z1 ?_; intros)
       | (refine z2 ?_ ?_ <;> first | exact zi | intro h | skip)
       | (refine kR ?_; refine zr (_, _) ?_)
       | (refine kO ?_; refine zc ?_ ?_ <;> intros))
      · rw [← h1, rootF_1 (by omega)]; exact ⟨rfl, rfl⟩
      · rw [← h1, rootF_no (by omega) h]; exact ⟨rfl, rfl⟩
      · rename_i s' _
        refine gnl (some (s', upL gs)) (by repeat (first | exact trivial | refine ⟨rfl, ?_⟩)) (er (eb Ent.nil)) ⟨(rootF_up (by omega) h).symm.trans h1, ?_, ?_⟩ ?_ <;> simp only [rtL] <;> omega
instance c_merkle_Root {lA : Option Addr} {lc ln : Nat} {l : List Hsh} {w0 : World} {X : Nat → Prop} {L : List Assn} [hK : KR w0 X L] [hl : Rw w0 X L (.slice lA ln lc) RHs l] : Ctr Tryd.prog 30 [.slice lA ln lc] w0 X L (l.length ≤ 1048576) (fun _ : Unit => .tuple #[Ag [.blk 32 (RB.all ((rootF l).1).l)], .bool ((rootF l).2)]) (fun _ : Unit => L) (fun _ : Unit => True) :=
  ctr' (M' := (fun _ : Unit => [])) (by kernel_rfl) (fun hp w hw => by have el := hl.len hw; subst el; exact merkle_Root _ _ _ w (hK.get w hw) (hl.get w hw) hp) (by rintro hp ⟨e0, e1⟩ ⟨rfl, rfl⟩ ok; exact ⟨(), rfl, rfl, trivial⟩)
end Go.Proofs.YtalainpmlonahaaDoor
