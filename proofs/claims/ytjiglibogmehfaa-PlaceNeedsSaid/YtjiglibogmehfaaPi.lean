/-
  moneyerref15: Trees, Tree, Stands.
-/
import Derived.Test.YtjiglibogmehfaaPq
set_option linter.all false
set_option maxRecDepth 100000
namespace Go.Proofs.Ytjiglibogmehfaa
open Go.RowKit

theorem ref15_Trees (n : Int) (w0 : World)  (hp : 0 ≤ n) :
    Ct Try.prog 17 [.int .u64 n] w0 no (fun ((⟨s0, n0, x0⟩) : Br PlG) => .slice s0.A n0 s0.c) (fun (⟨s0, n0, x0⟩) => [rw_ 32 RPl s0 n0 x0]) (fun (⟨s0, n0, x0⟩) => x0 = (treesN n)) := by
  have hst := St.start w0
  refine genter _ hst Try.func17 rfl rfl rfl rfl ?_
  obtain ⟨N, rfl⟩ := Int.eq_ofNat_of_zero_le hp
  repeat' (first
   | (refine kO ?_; first | refine gbs RPl rfl rfl rfl rfl rfl rfl (fun _ => ?_) (fun _ => ?_) | refine gv rfl rfl ?_ | refine gnil ?_ | refine gp rfl (by (try simp only [InR]); omega) rfl ?_ | (refine kK ?_; first | refine gcall rfl ?_ rfl (fun _ _ => ?_) (fun _ _ => ?_) | refine gcv rfl rfl ?_ rfl (fun _ _ => ?_) (fun _ _ => ?_) | refine gcc1 rfl rfl ?_ rfl (fun _ _ => ?_) (fun _ _ => ?_)) | refine gbu rfl rfl rfl rfl rfl ?_ | refine gap rfl rfl rfl (by omega) rfl (fun _ => ?_) (fun _ => ?_) | refine gan rfl rfl rfl (by omega) rfl (fun _ => ?_) (fun _ => ?_) | refine gapz rfl rfl rfl rfl (by omega) rfl (fun _ => ?_) (fun _ => ?_) | refine ganz rfl rfl rfl rfl (by omega) rfl (fun _ => ?_) (fun _ => ?_) | refine gbs RB rfl rfl rfl rfl rfl rfl (fun _ => ?_) (fun _ => ?_) | refine gbb rfl rfl rfl (by first | (simp; done) | (simp only [and_true]; omega)) rfl rfl rfl rfl (fun _ => ?_) (fun _ => ?_) | refine gb rfl rfl rfl rfl ?_ | refine gw rfl rfl ?_)
   | (refine kC ?_; first | refine gseq ?_ | refine greg ?_ | refine gret ?_ | refine gskip ?_ | (refine gcond rfl (fun h => ?_) (fun h => ?_) <;> (first | exact h.elim | (exfalso; omega) | exact absurd h (by assumption) | exact absurd (by assumption) h | skip)) | refine gblk ?_ | refine gexit ?_)
   | (refine kN ?_; first | refine gthen ?_ | refine gnblk ?_)
   | (refine kR ?_; first | refine grs ?_ | refine grb ?_ | refine grl ?_ | refine grc ?_)
   | (refine kX ?_; first | refine gxs ?_ | refine gxb ?_ | refine gxn rfl ?_ | refine gxl ?_ | refine gxc ?_)
   | (refine kR ?_; refine gr rfl (rvT rfl rv0) (⟨_, _, _⟩) rfl (er Ent.nil) ?_)
   | (refine kR ?_; refine gr rfl (rvT rfl rv0) (⟨⟨none, 0⟩, 0, []⟩) rfl (er0 Ent.nil) ?_)
   | (refine Pre.mk ?_; first | exact True.intro | omega | ((repeat' (first | refine And.intro ?_ ?_ | exact True.intro | assumption | omega)); done) | (simp only [and_true, true_and, or_true, true_or]; first | done | omega))
   | (refine kD ?_; first | exact dm_none))
  · simp [treesN, show ¬ ((N : Int) ≤ 1048576) by omega]
  · refine gloop4 [] (fun (i : Nat × Nat) (k m : Nat) (s : Sv) K => (0, .int .u64 m) :: (3, .slice s.A i.1 s.c) :: (4, .int .u64 i.2) :: (5, .int .i64 ((k : Int) - 1)) :: K) (fun i k m s => [rw_ 32 RPl s i.1 ((trees 0 N).take i.1)]) (fun i k m s => i.2 + m = N ∧ k ≤ 21 ∧ m < 2 ^ k ∧ i.1 + m ≤ N ∧ (trees 0 N).drop i.1 = trees i.2 m) (fun i k m s => k) (0, 0) 21 N ⟨none, 0⟩ rfl (by repeat (first | exact trivial | refine ⟨rfl, ?_⟩)) (er0 Ent.nil) ⟨by omega, by omega, by omega, by omega, rfl⟩ (fun i k m s hi => ?_)
    obtain ⟨j, f⟩ := i
    obtain ⟨i1, i2, i3, i4, i5⟩ := hi
    simp only at i1 i2 i3 i4 i5
    cases k with
    | zero =>
      obtain rfl : m = 0 := by simpa using i3
      repeat' (first
       | (refine kO ?_; first | refine gv rfl rfl ?_ | refine gnil ?_ | refine gp rfl (by (try simp only [InR]); omega) rfl ?_ | (refine kK ?_; first | refine gcall rfl ?_ rfl (fun _ _ => ?_) (fun _ _ => ?_) | refine gcv rfl rfl ?_ rfl (fun _ _ => ?_) (fun _ _ => ?_) | refine gcc1 rfl rfl ?_ rfl (fun _ _ => ?_) (fun _ _ => ?_)) | refine gbu rfl rfl rfl rfl rfl ?_ | refine gap rfl rfl rfl (by omega) rfl (fun _ => ?_) (fun _ => ?_) | refine gan rfl rfl rfl (by omega) rfl (fun _ => ?_) (fun _ => ?_) | refine gapz rfl rfl rfl rfl (by omega) rfl (fun _ => ?_) (fun _ => ?_) | refine ganz rfl rfl rfl rfl (by omega) rfl (fun _ => ?_) (fun _ => ?_) | refine gbs RB rfl rfl rfl rfl rfl rfl (fun _ => ?_) (fun _ => ?_) | refine gbb rfl rfl rfl (by first | (simp; done) | (simp only [and_true]; omega)) rfl rfl rfl rfl (fun _ => ?_) (fun _ => ?_) | refine gb rfl rfl rfl rfl ?_ | refine gw rfl rfl ?_)
       | (refine kC ?_; first | refine gseq ?_ | refine greg ?_ | refine gret ?_ | refine gskip ?_ | (refine gcond rfl (fun h => ?_) (fun h => ?_) <;> (first | exact h.elim | (exfalso; omega) | exact absurd h (by assumption) | exact absurd (by assumption) h | skip)) | refine gblk ?_ | refine gexit ?_)
       | (refine kN ?_; first | refine gthen ?_ | refine gnblk ?_)
       | (refine kR ?_; first | refine grs ?_ | refine grb ?_ | refine grl ?_ | refine grc ?_)
       | (refine kX ?_; first | refine gxs ?_ | refine gxb ?_ | refine gxn rfl ?_ | refine gxl ?_ | refine gxc ?_)
       | (refine kR ?_; refine gr rfl (rvT rfl rv0) (⟨_, _, _⟩) rfl (er Ent.nil) ?_)
       | (refine kR ?_; refine gr rfl (rvT rfl rv0) (⟨⟨none, 0⟩, 0, []⟩) rfl (er0 Ent.nil) ?_)
       | (refine Pre.mk ?_; first | exact True.intro | omega | ((repeat' (first | refine And.intro ?_ ?_ | exact True.intro | assumption | omega)); done) | (simp only [and_true, true_and, or_true, true_or]; first | done | omega))
       | (refine kD ?_; first | exact dm_none))
      have h1 : (trees 0 N).length ≤ j := by rw [trees_zero] at i5; simpa using i5
      show _ = treesN _
      unfold treesN
      rw [if_pos (by omega), List.take_of_length_le h1]; rfl
    | succ k =>
      have e1 : (((k + 1 : Nat) : Int) - 1) = (k : Int) := by omega
      have hpk := Nat.pow_le_pow_right (n := 2) (by omega) (show k ≤ 20 by omega)
      have hpos := Nat.two_pow_pos k
      have e2 : 2 ^ ((k : Nat) : Int).toNat = 2 ^ k := by rw [Int.toNat_natCast]
      rw [e1]
      repeat' (first
       | (refine kO ?_; first | refine gbs RPl rfl rfl rfl rfl rfl rfl (fun _ => ?_) (fun _ => ?_) | refine gv rfl rfl ?_ | refine gnil ?_ | refine gp rfl (by (try simp only [InR]); omega) rfl ?_ | (refine kK ?_; first | refine gcall rfl ?_ rfl (fun _ _ => ?_) (fun _ _ => ?_) | refine gcv rfl rfl ?_ rfl (fun _ _ => ?_) (fun _ _ => ?_) | refine gcc1 rfl rfl ?_ rfl (fun _ _ => ?_) (fun _ _ => ?_)) | refine gbu rfl rfl rfl rfl rfl ?_ | refine gap rfl rfl rfl (by omega) rfl (fun _ => ?_) (fun _ => ?_) | refine gan rfl rfl rfl (by omega) rfl (fun _ => ?_) (fun _ => ?_) | refine gapz rfl rfl rfl rfl (by omega) rfl (fun _ => ?_) (fun _ => ?_) | refine ganz rfl rfl rfl rfl (by omega) rfl (fun _ => ?_) (fun _ => ?_) | refine gbs RB rfl rfl rfl rfl rfl rfl (fun _ => ?_) (fun _ => ?_) | refine gbb rfl rfl rfl (by first | (simp; done) | (simp only [and_true]; omega)) rfl rfl rfl rfl (fun _ => ?_) (fun _ => ?_) | refine gb rfl rfl rfl rfl ?_ | refine gw rfl rfl ?_)
       | (refine kC ?_; first | refine gseq ?_ | refine greg ?_ | refine gret ?_ | refine gskip ?_ | (refine gcond rfl (fun h => ?_) (fun h => ?_) <;> (first | exact h.elim | (exfalso; omega) | exact absurd h (by assumption) | exact absurd (by assumption) h | skip)) | refine gblk ?_ | refine gexit ?_)
       | (refine kN ?_; first | refine gthen ?_ | refine gnblk ?_)
       | (refine kR ?_; first | refine grs ?_ | refine grb ?_ | refine grl ?_ | refine grc ?_)
       | (refine kX ?_; first | refine gxs ?_ | refine gxb ?_ | refine gxn rfl ?_ | refine gxl ?_ | refine gxc ?_)
       | (refine kR ?_; refine gr rfl (rvT rfl rv0) (⟨_, _, _⟩) rfl (er Ent.nil) ?_)
       | (refine kR ?_; refine gr rfl (rvT rfl rv0) (⟨⟨none, 0⟩, 0, []⟩) rfl (er0 Ent.nil) ?_)
       | (refine Pre.mk ?_; first | exact True.intro | omega | ((repeat' (first | refine And.intro ?_ ?_ | exact True.intro | assumption | omega)); done) | (simp only [and_true, true_and, or_true, true_or]; first | done | omega))
       | (refine kD ?_; first | exact dm_none))
      · rename_i s'
        rw [e2] at h
        have hm0 : m ≠ 0 := by omega
        have hlg : Nat.log2 m = k := (Nat.log2_eq_iff hm0).2 ⟨by omega, i3⟩
        rw [trees_step hm0, hlg] at i5
        obtain ⟨t1, t2, t3⟩ := take_of_drop i5
        have e5 : (m : Int) - ((2 ^ k : Nat) : Int) = ((m - 2 ^ k : Nat) : Int) := by omega
        have e6 : (f : Int) + ((2 ^ k : Nat) : Int) = ((f + 2 ^ k : Nat) : Int) := by omega
        have e7 : (f : Int) / ((2 ^ k : Nat) : Int) = ((f / 2 ^ k : Nat) : Int) := by simp
        simp only [e2, e5, e6, e7]
        refine gnl4 (j + 1, f + 2 ^ k) k (m - 2 ^ k) s' (by repeat (first | exact trivial | refine ⟨rfl, ?_⟩)) ?_ ⟨by simp only; omega, by omega, by omega, by simp only; omega, t2⟩ (by omega)
        simp only [t1]; exact er Ent.nil
      · rw [e2] at h
        refine gnl4 (j, f) k m s (by repeat (first | exact trivial | refine ⟨rfl, ?_⟩)) (er Ent.nil) ⟨i1, by omega, by omega, i4, i5⟩ (by omega)
instance c_ref15_Trees {n : Int} {w0 : World} {X : Nat → Prop} {L : List Assn}  : Ctr Try.prog 17 [.int .u64 n] w0 X L (0 ≤ n) (fun s0 : Sv => .slice s0.A (treesN n).length s0.c) (fun s0 : Sv => rw_ 32 RPl s0 (treesN n).length (treesN n) :: L) (fun s0 : Sv => True) :=
  ctr' (M' := (fun s0 : Sv => [rw_ 32 RPl s0 (treesN n).length (treesN n)])) (by kernel_rfl) (fun hp w hw => by exact ref15_Trees _ w hp) (by rintro hp ⟨s0, n0, x0⟩ rfl ok; cases ok.row; exact ⟨s0, rfl, rfl, trivial⟩)
theorem trees_len : ∀ (n f : Nat), (trees f n).length ≤ n := by
  intro n
  induction n using Nat.strongRecOn with
  | _ n ih =>
    intro f
    by_cases h0 : n = 0
    · subst h0; rw [trees_zero]; exact Nat.le_refl _
    · have hpos := Nat.two_pow_pos (Nat.log2 n)
      have hl := (Nat.log2_eq_iff h0).1 rfl
      rw [trees_step h0]
      have := ih (n - 2 ^ Nat.log2 n) (by omega) (f + 2 ^ Nat.log2 n)
      simp only [List.length_cons]; omega
theorem treesN_len (n : Int) : (treesN n).length ≤ 1048576 := by
  unfold treesN
  split
  · have := trees_len n.toNat 0; omega
  · simp
theorem inside0 {leaf : Int} {p : PlG} (h : 0 ≤ p.row) : (decide ((0 : Int) ≤ p.row ∧ leaf / ((2 ^ (p.row - 0).toNat : Nat) : Int) = p.at_)) = treeQ leaf p := by
  unfold treeQ
  have e : ((2 ^ (p.row - 0).toNat : Nat) : Int) = 2 ^ p.row.toNat := by simp
  rw [e, decide_eq_decide]
  exact ⟨fun h => h.2, fun h' => ⟨h, h'⟩⟩
theorem ref15_Tree (n : Int) (leaf : Int) (w0 : World)  (hp : 0 ≤ n ∧ 0 ≤ leaf ∧ leaf ≤ 18446744073709551615) :
    Ct Try.prog 15 [.int .u64 n, .int .u64 leaf] w0 no (fun ((e0, e1, e2) : Int × Int × Bool) => .tuple #[Ag [.one (.int .u8 e0), .one (.int .u64 e1)], .bool e2]) (fun (e0, e1, e2) => []) (fun (e0, e1, e2) => e0 = (treeP n leaf).row ∧ e1 = (treeP n leaf).at_ ∧ e2 = treeB n leaf) := by
  have hst := St.start w0
  refine genter _ hst Try.func15 rfl rfl rfl rfl ?_
  have hb := treeI_b n leaf
  have hlen := treesN_len n
  repeat' (first
   | (refine kO ?_; first | refine gv rfl rfl ?_ | refine gnil ?_ | refine gl rfl (lvb rfl rfl) rfl (fun _ => ?_) | refine gl rfl (lvB rfl rfl rfl) rfl (fun _ => ?_) | refine gl rfl (lve rfl rfl) rfl (fun _ => ?_) | refine gl rfl (lvE rfl rfl rfl) rfl (fun _ => ?_) | refine gl rfl (lva rfl rfl rfl rfl rfl) rfl (fun _ => ?_) | refine gp rfl (by (try simp only [InR]); omega) rfl ?_ | refine gix rfl rfl rfl rfl (by omega) rfl (fun _ => ?_) | refine gixa rfl rfl rfl rfl (by omega) rfl (fun _ => ?_) | (refine kK ?_; first | refine gcall rfl ?_ rfl (fun _ _ => ?_) (fun _ _ => ?_) | refine gcv rfl rfl ?_ rfl (fun _ _ => ?_) (fun _ _ => ?_) | refine gcc1 rfl rfl ?_ rfl (fun _ _ => ?_) (fun _ _ => ?_)) | refine gbu rfl rfl rfl rfl rfl ?_ | refine ga rfl (fun _ => ?_) (fun _ => ?_) | refine gst rfl rfl rfl rfl ?_ ?_ | refine ge rfl rfl rfl rfl ?_ ?_ | refine gea rfl rfl rfl rfl rfl rfl rfl ?_ ?_ | refine gw rfl rfl ?_)
   | (refine kC ?_; first | refine gseq ?_ | refine greg ?_ | refine gret ?_ | refine gskip ?_ | (refine gcond rfl (fun h => ?_) (fun h => ?_) <;> (first | exact h.elim | (exfalso; omega) | exact absurd h (by assumption) | exact absurd (by assumption) h | skip)) | refine gblk ?_ | refine gexit ?_)
   | (refine kN ?_; first | refine gthen ?_ | refine gnblk ?_)
   | (refine kR ?_; first | refine grs ?_ | refine grb ?_ | refine grl ?_ | refine grc ?_)
   | (refine kX ?_; first | refine gxs ?_ | refine gxb ?_ | refine gxn rfl ?_ | refine gxl ?_ | refine gxc ?_)
   | (refine kR ?_; refine gr rfl (rvC rfl (lvb rfl rfl) (rvT rfl rv0)) (_, _, _) rfl Ent.nil ?_)
   | (refine kR ?_; refine gr rfl (rvC rfl (lvB rfl rfl rfl) (rvT rfl rv0)) (_, _, _) rfl Ent.nil ?_)
   | (refine Pre.mk ?_; first | exact True.intro | omega | ((repeat' (first | refine And.intro ?_ ?_ | exact True.intro | assumption | omega)); done) | (simp only [and_true, true_and, or_true, true_or]; first | done | omega))
   | (refine kD ?_; first | exact dm_none))
  refine gloopc [1, 4, 6] (fun (i : Nat) K => (7, .int .i64 i) :: K) (fun i => i ≤ (treesN n).length ∧ idxG (treeQ leaf) (treesN n) 0 = idxG (treeQ leaf) ((treesN n).drop i) i) (fun i => (treesN n).length - i) 0 rfl (by repeat (first | exact trivial | refine ⟨rfl, ?_⟩)) (by simp) (fun i hi => ?_)
  have hto := fun h => (treesN_ok n).at (i := (i : Int)) ⟨by omega, h⟩
  repeat' (first
   | (refine kO ?_; first | refine gv rfl rfl ?_ | refine gnil ?_ | refine gl rfl (lvb rfl rfl) rfl (fun _ => ?_) | refine gl rfl (lvB rfl rfl rfl) rfl (fun _ => ?_) | refine gl rfl (lve rfl rfl) rfl (fun _ => ?_) | refine gl rfl (lvE rfl rfl rfl) rfl (fun _ => ?_) | refine gl rfl (lva rfl rfl rfl rfl rfl) rfl (fun _ => ?_) | refine gp rfl (by (try simp only [InR]); omega) rfl ?_ | refine gix rfl rfl rfl rfl (by omega) rfl (fun _ => ?_) | refine gixa rfl rfl rfl rfl (by omega) rfl (fun _ => ?_) | (refine kK ?_; first | refine gcall rfl ?_ rfl (fun _ _ => ?_) (fun _ _ => ?_) | refine gcv rfl rfl ?_ rfl (fun _ _ => ?_) (fun _ _ => ?_) | refine gcc1 rfl rfl ?_ rfl (fun _ _ => ?_) (fun _ _ => ?_)) | refine gbu rfl rfl rfl rfl rfl ?_ | refine ga rfl (fun _ => ?_) (fun _ => ?_) | refine gst rfl rfl rfl rfl ?_ ?_ | refine ge rfl rfl rfl rfl ?_ ?_ | refine gea rfl rfl rfl rfl rfl rfl rfl ?_ ?_ | refine gw rfl rfl ?_)
   | (refine kC ?_; first | refine gseq ?_ | refine greg ?_ | refine gret ?_ | refine gskip ?_ | (refine gcond rfl (fun h => ?_) (fun h => ?_) <;> (first | exact h.elim | (exfalso; omega) | exact absurd h (by assumption) | exact absurd (by assumption) h | skip)) | refine gblk ?_ | refine gexit ?_)
   | (refine kN ?_; first | refine gthen ?_ | refine gnblk ?_)
   | (refine kR ?_; first | refine grs ?_ | refine grb ?_ | refine grl ?_ | refine grc ?_)
   | (refine kX ?_; first | refine gxs ?_ | refine gxb ?_ | refine gxn rfl ?_ | refine gxl ?_ | refine gxc ?_)
   | (refine kR ?_; refine gr rfl (rvC rfl (lvb rfl rfl) (rvT rfl rv0)) (_, _, _) rfl Ent.nil ?_)
   | (refine kR ?_; refine gr rfl (rvC rfl (lvB rfl rfl rfl) (rvT rfl rv0)) (_, _, _) rfl Ent.nil ?_)
   | exact Pre.mk ⟨⟨by have := hto (by assumption); omega, by have := hto (by assumption); omega⟩, by omega, by omega, by omega, by omega⟩
   | (refine Pre.mk ?_; first | exact True.intro | omega | ((repeat' (first | refine And.intro ?_ ?_ | exact True.intro | assumption | omega)); done) | (simp only [and_true, true_and, or_true, true_or]; first | done | omega))
   | (refine kD ?_; first | exact dm_none))
  · have hi1 : (i : Int) < (treesN n).length := by assumption
    have hx := (inside0 (leaf := leaf) (p := ixd (treesN n) i) (hto hi1).1).symm.trans (decide_eq_true h)
    have e0 : treeI n leaf = i := by unfold treeI; rw [hi.2, drop_ixd (by omega), idxG, if_pos hx]
    have e : treeP n leaf = ixd (treesN n) i := by unfold treeP; rw [if_neg (by omega), e0]
    show _ = (treeP n leaf).row ∧ _ = (treeP n leaf).at_ ∧ _ = treeB n leaf
    rw [e]; exact ⟨rfl, rfl, (decide_eq_true (by omega)).symm⟩
  · have hi1 : (i : Int) < (treesN n).length := by assumption
    have hx := (inside0 (leaf := leaf) (p := ixd (treesN n) i) (hto hi1).1).symm.trans (decide_eq_false h)
    refine gnl (i + 1) (by repeat (first | exact trivial | refine ⟨rfl, ?_⟩)) (Ent.refl _) ⟨by omega, ?_⟩ (by omega)
    rw [hi.2, drop_ixd (by omega), idxG, if_neg (by rw [hx]; decide)]; rfl
  · have e0 : treeI n leaf = -1 := by unfold treeI; rw [hi.2, List.drop_eq_nil_of_le (by omega)]; rfl
    have e : treeP n leaf = ⟨0, 0⟩ := if_pos (by omega)
    show _ = (treeP n leaf).row ∧ _ = (treeP n leaf).at_ ∧ _ = treeB n leaf
    rw [e]; exact ⟨rfl, rfl, (decide_eq_false (by omega)).symm⟩
instance c_ref15_Tree {n : Int} {leaf : Int} {w0 : World} {X : Nat → Prop} {L : List Assn}  : Ctr Try.prog 15 [.int .u64 n, .int .u64 leaf] w0 X L (0 ≤ n ∧ 0 ≤ leaf ∧ leaf ≤ 18446744073709551615) (fun _ : Unit => .tuple #[Ag [.one (.int .u8 ((treeP n leaf).row)), .one (.int .u64 ((treeP n leaf).at_))], .bool (treeB n leaf)]) (fun _ : Unit => L) (fun _ : Unit => 0 ≤ (treeP n leaf).row ∧ (treeP n leaf).row ≤ 20 ∧ 0 ≤ (treeP n leaf).at_ ∧ (treeP n leaf).at_ ≤ 1048576) :=
  ctr' (M' := (fun _ : Unit => [])) (by kernel_rfl) (fun hp w hw => by exact ref15_Tree _ _ w hp) (by rintro hp ⟨e0, e1, e2⟩ ⟨rfl, rfl, rfl⟩ ok; exact ⟨(), rfl, rfl, treeP_ok n leaf⟩)
theorem ref15_Stands (n : Int) (r : Int) (a : Int) (w0 : World)  (hp : 0 ≤ n ∧ (0 ≤ r ∧ r ≤ 255 ∧ 0 ≤ a ∧ a ≤ 18446744073709551615)) :
    Ct Try.prog 19 [.int .u64 n, Ag [.one (.int .u8 r), .one (.int .u64 a)]] w0 no (fun ((e0) : Bool) => .bool e0) (fun (e0) => []) (fun (e0) => e0 = standsB n ⟨r, a⟩) := by
  have hst := St.start w0
  refine genter _ hst Try.func19 rfl rfl rfl rfl ?_
  have hs := stands_iff (n := n.toNat) (p := ⟨r, a⟩) hp.2
  rw [Int.toNat_of_nonneg hp.1] at hs
  have hlen := treesN_len n
  repeat' (first
   | (refine kO ?_; first | refine gv rfl rfl ?_ | refine gnil ?_ | refine gnilD ?_ | refine gl rfl (lvb rfl rfl) rfl (fun _ => ?_) | refine gl rfl (lvB rfl rfl rfl) rfl (fun _ => ?_) | refine gl rfl (lve rfl rfl) rfl (fun _ => ?_) | refine gl rfl (lvE rfl rfl rfl) rfl (fun _ => ?_) | refine gl rfl (lva rfl rfl rfl rfl rfl) rfl (fun _ => ?_) | refine gp rfl (by (try simp only [InR]); omega) rfl ?_ | refine gf rfl rfl rfl ?_ | refine gix rfl rfl rfl rfl (by omega) rfl (fun _ => ?_) | refine gixa rfl rfl rfl rfl (by omega) rfl (fun _ => ?_) | (refine kK ?_; first | refine gcall rfl ?_ rfl (fun _ _ => ?_) (fun _ _ => ?_) | refine gcv rfl rfl ?_ rfl (fun _ _ => ?_) (fun _ _ => ?_) | refine gcc1 rfl rfl ?_ rfl (fun _ _ => ?_) (fun _ _ => ?_)) | refine gx rfl rfl (fun _ => ?_) (fun _ => ?_) | refine gw rfl rfl ?_ | (refine kg ?_; (first | refine guardT rfl rfl rfl rfl (fun h => ?_) (fun h => ?_) | refine guardF rfl rfl rfl rfl (fun h => ?_) (fun h => ?_) | refine guardU rfl rfl rfl rfl ?_ | refine guardTH rfl rfl rfl rfl ?_ (fun h => ?_) (fun h => ?_) | refine guardFH rfl rfl rfl rfl ?_ (fun h => ?_) (fun h => ?_) | refine guardUH rfl rfl rfl rfl ?_ ?_) <;> (first | exact h.elim | (exfalso; omega) | exact absurd h (by assumption) | exact absurd (by assumption) h | skip)))
   | (refine kC ?_; first | refine gseq ?_ | refine greg ?_ | refine gret ?_ | refine gskip ?_ | refine gdraw (id := 5) [0,1,2,3,4,5,6,7,8,9,10] (by kernel_rfl) (by kernel_rfl) rfl ?_ | (refine gcond rfl (fun h => ?_) (fun h => ?_) <;> (first | exact h.elim | (exfalso; omega) | exact absurd h (by assumption) | exact absurd (by assumption) h | skip)) | refine gblk ?_ | refine gexit ?_)
   | (refine kN ?_; first | refine gthen ?_ | refine gnblk ?_)
   | (refine kR ?_; first | refine grs ?_ | refine grb ?_ | refine grl ?_ | refine grc ?_)
   | (refine kX ?_; first | refine gxs ?_ | refine gxb ?_ | refine gxn rfl ?_ | refine gxl ?_ | refine gxc ?_)
   | (refine kR ?_; refine gr rfl (rvT rfl rv0) (_) rfl Ent.nil ?_)
   | (refine Pre.mk ?_; first | exact True.intro | omega | ((repeat' (first | refine And.intro ?_ ?_ | exact True.intro | assumption | omega)); done) | (simp only [and_true, true_and, or_true, true_or]; first | done | omega))
   | (refine kD ?_; first | exact dm_none | exact dm0 | refine dmOff rfl ?_ | refine dmOn (lvb rfl rfl) ?_ | refine dmOn (lvB rfl rfl rfl) ?_ | refine dmOn (lve rfl rfl) ?_ | refine dmOn (lvE rfl rfl rfl) ?_ | refine dmOn (lva rfl rfl rfl rfl rfl) ?_))
  refine gloopc [3, 5] (fun (i : Nat) K => (6, .int .i64 i) :: K) (fun i => i ≤ (treesN n).length ∧ ∀ j : Nat, j < i → ¬ (r ≤ 20 ∧ insideB (ixd (treesN n) (j : Int)) ⟨r, a⟩ = true)) (fun i => (treesN n).length - i) 0 rfl (by repeat (first | exact trivial | refine ⟨rfl, ?_⟩)) (by simp) (fun i hi => ?_)
  have hto := fun h => (treesN_ok n).at (i := (i : Int)) ⟨by omega, h⟩
  repeat' (first
   | (refine kO ?_; first | refine gv rfl rfl ?_ | refine gnil ?_ | refine gnilD ?_ | refine gl rfl (lvb rfl rfl) rfl (fun _ => ?_) | refine gl rfl (lvB rfl rfl rfl) rfl (fun _ => ?_) | refine gl rfl (lve rfl rfl) rfl (fun _ => ?_) | refine gl rfl (lvE rfl rfl rfl) rfl (fun _ => ?_) | refine gl rfl (lva rfl rfl rfl rfl rfl) rfl (fun _ => ?_) | refine gp rfl (by (try simp only [InR]); omega) rfl ?_ | refine gf rfl rfl rfl ?_ | refine gix rfl rfl rfl rfl (by omega) rfl (fun _ => ?_) | refine gixa rfl rfl rfl rfl (by omega) rfl (fun _ => ?_) | (refine kK ?_; first | refine gcall rfl ?_ rfl (fun _ _ => ?_) (fun _ _ => ?_) | refine gcv rfl rfl ?_ rfl (fun _ _ => ?_) (fun _ _ => ?_) | refine gcc1 rfl rfl ?_ rfl (fun _ _ => ?_) (fun _ _ => ?_)) | refine gx rfl rfl (fun _ => ?_) (fun _ => ?_) | refine gw rfl rfl ?_ | (refine kg ?_; (first | refine guardT rfl rfl rfl rfl (fun h => ?_) (fun h => ?_) | refine guardF rfl rfl rfl rfl (fun h => ?_) (fun h => ?_) | refine guardU rfl rfl rfl rfl ?_ | refine guardTH rfl rfl rfl rfl ?_ (fun h => ?_) (fun h => ?_) | refine guardFH rfl rfl rfl rfl ?_ (fun h => ?_) (fun h => ?_) | refine guardUH rfl rfl rfl rfl ?_ ?_) <;> (first | exact h.elim | (exfalso; omega) | exact absurd h (by assumption) | exact absurd (by assumption) h | skip)))
   | (refine kC ?_; first | refine gseq ?_ | refine greg ?_ | refine gret ?_ | refine gskip ?_ | refine gdraw (id := 5) [0,1,2,3,4,5,6,7,8,9,10] (by kernel_rfl) (by kernel_rfl) rfl ?_ | (refine gcond rfl (fun h => ?_) (fun h => ?_) <;> (first | exact h.elim | (exfalso; omega) | exact absurd h (by assumption) | exact absurd (by assumption) h | skip)) | refine gblk ?_ | refine gexit ?_)
   | (refine kN ?_; first | refine gthen ?_ | refine gnblk ?_)
   | (refine kR ?_; first | refine grs ?_ | refine grb ?_ | refine grl ?_ | refine grc ?_)
   | (refine kX ?_; first | refine gxs ?_ | refine gxb ?_ | refine gxn rfl ?_ | refine gxl ?_ | refine gxc ?_)
   | (refine kR ?_; refine gr rfl (rvT rfl rv0) (_) rfl Ent.nil ?_)
   | exact Pre.mk ⟨⟨by have := hto (by assumption); omega, by have := hto (by assumption); omega⟩, by omega, by omega, by omega, by omega⟩
   | (refine Pre.mk ?_; first | exact True.intro | omega | ((repeat' (first | refine And.intro ?_ ?_ | exact True.intro | assumption | omega)); done) | (simp only [and_true, true_and, or_true, true_or]; first | done | omega))
   | (refine kD ?_; first | exact dm_none | exact dm0 | refine dmOff rfl ?_ | refine dmOn (lvb rfl rfl) ?_ | refine dmOn (lvB rfl rfl rfl) ?_ | refine dmOn (lve rfl rfl) ?_ | refine dmOn (lvE rfl rfl rfl) ?_ | refine dmOn (lva rfl rfl rfl rfl rfl) ?_))
  · have hi1 : (i : Int) < (treesN n).length := by assumption
    exact (hs.2 ⟨by assumption, ixd (treesN n) i, by rw [ixd_eq (by omega)]; exact List.getElem_mem _, decide_eq_true h⟩).symm
  · have hi1 : (i : Int) < (treesN n).length := by assumption
    refine gnl (i + 1) (by repeat (first | exact trivial | refine ⟨rfl, ?_⟩)) (Ent.refl _) ⟨by omega, fun j hj => ?_⟩ (by omega)
    by_cases e : j = i
    · subst e; exact fun hh => h (of_decide_eq_true hh.2)
    · exact hi.2 j (by omega)
  · have hi1 : (i : Int) < (treesN n).length := by assumption
    refine gnl (i + 1) (by repeat (first | exact trivial | refine ⟨rfl, ?_⟩)) (Ent.refl _) ⟨by omega, fun j hj => fun hh => by omega⟩ (by omega)
  · refine (Bool.eq_false_iff.2 fun hh => ?_).symm
    obtain ⟨h1, t, h2, h3⟩ := hs.1 hh
    obtain ⟨j, hj, rfl⟩ := List.mem_iff_getElem.1 h2
    refine hi.2 j (by omega) ⟨h1, ?_⟩
    rw [ixd_eq (by omega)]; simpa using h3
instance c_ref15_Stands {n : Int} {r : Int} {a : Int} {w0 : World} {X : Nat → Prop} {L : List Assn}  : Ctr Try.prog 19 [.int .u64 n, Ag [.one (.int .u8 r), .one (.int .u64 a)]] w0 X L (0 ≤ n ∧ (0 ≤ r ∧ r ≤ 255 ∧ 0 ≤ a ∧ a ≤ 18446744073709551615)) (fun _ : Unit => .bool (standsB n ⟨r, a⟩)) (fun _ : Unit => L) (fun _ : Unit => True) :=
  ctr' (M' := (fun _ : Unit => [])) (by kernel_rfl) (fun hp w hw => by exact ref15_Stands _ _ _ w hp) (by rintro hp e0 rfl ok; exact ⟨(), rfl, rfl, trivial⟩)
end Go.Proofs.Ytjiglibogmehfaa
