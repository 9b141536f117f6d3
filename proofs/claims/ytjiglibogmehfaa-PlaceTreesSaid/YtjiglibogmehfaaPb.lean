/-
  Places: the trees.
-/
import Derived.Test.YtjiglibogmehfaaPa
import Derived.Test.YtjiglibogmehfaaNk
set_option linter.all false
set_option maxRecDepth 100000
namespace Go.Proofs.Ytjiglibogmehfaa
open Go.RowKit

def bl (n : Nat) : Nat := if n = 0 then 0 else Nat.log2 n + 1
theorem bl_iff {n m : Nat} (h : n ≠ 0) : bl n = m + 1 ↔ 2 ^ m ≤ n ∧ n < 2 ^ (m + 1) := by
  unfold bl; rw [if_neg h, ← Nat.log2_eq_iff h]; omega
theorem bl_shift {n k : Nat} (h : 2 ^ k ≤ n) : bl n = k + bl (n / 2 ^ k) := by
  have hk := Nat.two_pow_pos k
  have h0 : n ≠ 0 := by omega
  have h1 : n / 2 ^ k ≠ 0 := by
    have := (Nat.le_div_iff_mul_le hk (x := 1) (y := n)).2 (by omega)
    omega
  obtain ⟨m, hm⟩ : ∃ m, bl (n / 2 ^ k) = m + 1 := ⟨Nat.log2 (n / 2 ^ k), by unfold bl; rw [if_neg h1]⟩
  obtain ⟨a, b⟩ := (bl_iff h1).1 hm
  rw [hm, ← Nat.add_assoc, bl_iff h0]
  rw [Nat.le_div_iff_mul_le hk] at a
  rw [Nat.div_lt_iff_lt_mul hk] at b
  rw [Nat.add_assoc, Nat.pow_add, Nat.pow_add, Nat.mul_comm, Nat.mul_comm (2 ^ k)]
  exact ⟨a, b⟩
def lenTab : List UInt8 := (List.range 256).map fun i => UInt8.ofNat (bl i)
theorem bl_small {n : Nat} (h : n < 256) : bl n ≤ 8 := by
  by_cases h0 : n = 0
  · subst h0; decide
  · unfold bl; rw [if_neg h0]
    have := (Nat.log2_lt h0 (k := 8)).2 (by omega)
    omega
instance : LenIs lenTab 256 := ⟨by simp [lenTab]⟩
theorem lenTab_eq {i : Int} (h0 : 0 ≤ i) (h1 : i < 256) : ((ixd lenTab i).toNat : Int) = (bl i.toNat : Int) := by
  have hl : lenTab.length = 256 := by simp [lenTab]
  rw [ixd_eq (by omega)]
  have e : ∀ (j : Nat) (hj : j < lenTab.length), lenTab[j] = UInt8.ofNat (bl j) := fun j hj => by simp [lenTab]
  rw [e]
  have := bl_small (n := i.toNat) (by omega)
  rw [UInt8.toNat_ofNat']
  omega
theorem bl_lt {n k : Nat} (h : n < 2 ^ k) : bl n ≤ k := by
  by_cases h0 : n = 0
  · subst h0; simp [bl]
  · unfold bl; rw [if_neg h0]
    have := (Nat.log2_lt h0 (k := k)).2 h
    omega
theorem bl_most {x : Int} (h : x ≤ 1048576) : bl x.toNat ≤ 21 := bl_lt (by omega)
theorem bl_shiftI {x : Int} {k : Nat} (h : (2 ^ k : Nat) ≤ x) : (bl x.toNat : Int) = k + bl (x / 2 ^ k).toNat := by
  have h1 : (x / 2 ^ k).toNat = x.toNat / 2 ^ k := by
    have hx : 0 ≤ x := by have := Nat.two_pow_pos k; omega
    obtain ⟨m, rfl⟩ := Int.eq_ofNat_of_zero_le hx
    have : ((m : Int) / 2 ^ k) = ((m / 2 ^ k : Nat) : Int) := by simp
    rw [this, Int.toNat_natCast, Int.toNat_natCast]
  rw [h1, bl_shift (k := k) (by omega)]; simp
theorem wrap_i64 {n : Int} (h0 : 0 ≤ n) (h1 : n ≤ 1000) : IntKind.i64.wrap n = n := InR.wrap (k := .i64) (by simp only [InR]; omega)
theorem pl_len64 (x : Int) (w0 : World)  (hp : 0 ≤ x ∧ x ≤ 1048576) :
    Ct Try.prog 38 [.int .u64 x] w0 no (fun ((e0) : Int) => .int .i64 e0) (fun (e0) => []) (fun (e0) => e0 = (bl x.toNat : Int)) := by
  have hst := St.start w0
  refine genter _ hst Try.func38 rfl rfl rfl rfl ?_
  repeat' (first
   | (refine kO ?_; first | refine gstr (l := lenTab) (m := 256) rfl rfl rfl (by (try simp only [Int.reducePow] at *); omega) (by kernel_rfl) rfl ?_ | refine gv rfl rfl ?_ | refine gnil ?_ | refine gp rfl (by (try simp only [InR]); omega) rfl ?_ | refine gsh rfl (by (try simp only [InR]); omega) rfl ?_ | refine gsv rfl (by (try simp only [InR, InSh]); omega) rfl ?_ | refine gb rfl rfl rfl rfl ?_ | refine gw rfl rfl ?_)
   | (refine kC ?_; first | refine gseq ?_ | refine greg ?_ | refine gret ?_ | refine gskip ?_ | (refine gcond rfl (fun h => ?_) (fun h => ?_) <;> (first | exact h.elim | (exfalso; omega) | exact absurd h (by assumption) | exact absurd (by assumption) h | skip)))
   | (refine kN ?_; first | refine gthen ?_)
   | (refine kR ?_; first | refine grs ?_ | refine grc ?_)
   | (refine kR ?_; refine gr rfl (rvT rfl rv0) (_) rfl Ent.nil ?_)
   | (refine kD ?_; first | exact dm_none))
  · have h1 := bl_shiftI (x := x) (k := 16) (by omega)
    have h2 := bl_shiftI (x := x / 65536) (k := 8) (by simp only [Int.reducePow] at *; omega)
    have h3 := bl_lt (n := (x / 65536 / 256).toNat) (k := 8) (by omega)
    simp only [Int.reducePow] at *
    rw [lenTab_eq (by omega) (by omega), wrap_i64 (n := ((bl _ : Nat) : Int)) (by omega) (by omega), wrap_i64 (by omega) (by omega)]; omega
  · have h1 := bl_shiftI (x := x) (k := 16) (by omega)
    have h3 := bl_lt (n := (x / 65536).toNat) (k := 8) (by omega)
    simp only [Int.reducePow] at *
    rw [lenTab_eq (by omega) (by omega), wrap_i64 (n := ((bl _ : Nat) : Int)) (by omega) (by omega), wrap_i64 (by omega) (by omega)]; omega
  · have h1 := bl_shiftI (x := x) (k := 8) (by omega)
    have h3 := bl_lt (n := (x / 256).toNat) (k := 8) (by omega)
    simp only [Int.reducePow] at *
    rw [lenTab_eq (by omega) (by omega), wrap_i64 (n := ((bl _ : Nat) : Int)) (by omega) (by omega), wrap_i64 (by omega) (by omega)]; omega
  · have h3 := bl_lt (n := x.toNat) (k := 8) (by omega)
    rw [lenTab_eq (by omega) (by omega), wrap_i64 (n := ((bl _ : Nat) : Int)) (by omega) (by omega), wrap_i64 (by omega) (by omega)]; omega
instance c_pl_len64 {x : Int} {w0 : World} {X : Nat → Prop} {L : List Assn}  : Ctr Try.prog 38 [.int .u64 x] w0 X L (0 ≤ x ∧ x ≤ 1048576) (fun _ : Unit => .int .i64 ((bl x.toNat : Int))) (fun _ : Unit => L) (fun _ : Unit => bl x.toNat ≤ 21) :=
  ctr' (M' := (fun _ : Unit => [])) (by kernel_rfl) (fun hp w hw => by exact pl_len64 _ w hp) (by rintro hp e0 rfl ok; exact ⟨(), rfl, rfl, bl_most hp.2⟩)
def trees (f n : Nat) : List PlG := if h : n = 0 then [] else ⟨(Nat.log2 n : Nat), ((f / 2 ^ Nat.log2 n : Nat) : Int)⟩ :: trees (f + 2 ^ Nat.log2 n) (n - 2 ^ Nat.log2 n)
termination_by n
decreasing_by have := Nat.two_pow_pos (Nat.log2 n); omega
def treesN (n : Int) : List PlG := if n ≤ 1048576 then trees 0 n.toNat else []
theorem trees_zero (f : Nat) : trees f 0 = [] := by unfold trees; rfl
theorem trees_step {f n : Nat} (h : n ≠ 0) : trees f n = ⟨(Nat.log2 n : Nat), ((f / 2 ^ Nat.log2 n : Nat) : Int)⟩ :: trees (f + 2 ^ Nat.log2 n) (n - 2 ^ Nat.log2 n) := by
  conv => lhs; unfold trees
  rw [dif_neg h]
theorem andNot_top {m : Nat} (h : m ≠ 0) (hm : m < 2 ^ 64) : bits BinOp.andNot .u64 (m : Int) ((2 ^ Nat.log2 m : Nat) : Int) = ((m - 2 ^ Nat.log2 m : Nat) : Int) := by
  obtain ⟨h1, h2⟩ := (Nat.log2_eq_iff h).1 rfl
  have hk : Nat.log2 m < 64 := (Nat.log2_lt h).2 hm
  have hp : 2 ^ Nat.log2 m < 2 ^ 64 := Nat.pow_lt_pow_right (by omega) hk
  rw [u64_andNot _ _ (by omega) (by omega) (by omega) (by omega), Int.toNat_natCast, Int.toNat_natCast]
  congr 1
  generalize Nat.log2 m = k at *
  obtain ⟨r, rfl⟩ : ∃ r, m = 2 ^ k + r := ⟨m - 2 ^ k, by omega⟩
  have hr : r < 2 ^ k := by rw [Nat.pow_succ] at h2; omega
  have e : 18446744073709551615 - 2 ^ k = 2 ^ 64 - (2 ^ k + 1) := by omega
  rw [e, Nat.add_sub_cancel_left]
  apply Nat.eq_of_testBit_eq
  intro i
  rw [Nat.testBit_and, Nat.testBit_two_pow_sub_succ hp, Nat.testBit_two_pow]
  rcases Nat.lt_trichotomy i k with h | h | h
  · rw [Nat.testBit_two_pow_add_gt h]
    have : ¬ k = i := by omega
    have : i < 64 := by omega
    simp [*]
  · subst h
    rw [Nat.testBit_lt_two_pow hr]; simp
  · have a : (2 ^ k + r).testBit i = false := Nat.testBit_lt_two_pow (Nat.lt_of_lt_of_le (by rw [Nat.pow_succ] at h2; rw [Nat.pow_succ]; omega) (Nat.pow_le_pow_right (by omega) (show k + 1 ≤ i from h)))
    have b : r.testBit i = false := Nat.testBit_lt_two_pow (Nat.lt_trans hr (Nat.pow_lt_pow_right (by omega) h))
    rw [a, b]; rfl
theorem bl_log {m : Nat} (h : m ≠ 0) : bl m = Nat.log2 m + 1 := by unfold bl; rw [if_neg h]
theorem take_of_drop {G : Type} {l r : List G} {j : Nat} {p : G} (h : l.drop j = p :: r) : l.take (j + 1) = l.take j ++ [p] ∧ l.drop (j + 1) = r ∧ j < l.length := by
  have hj : j < l.length := by
    rcases Nat.lt_or_ge j l.length with h1 | h1
    · exact h1
    · rw [List.drop_eq_nil_of_le h1] at h; cases h
  rw [List.drop_eq_getElem_cons hj] at h
  cases h
  exact ⟨by rw [List.take_succ_eq_append_getElem hj], rfl, hj⟩
theorem pl_trees (n : Int) (w0 : World)  (hp : 0 ≤ n) :
    Ct Try.prog 16 [.int .u64 n] w0 no (fun ((⟨s0, n0, x0⟩) : Br PlG) => .slice s0.A n0 s0.c) (fun (⟨s0, n0, x0⟩) => [rw_ 32 RPl s0 n0 x0]) (fun (⟨s0, n0, x0⟩) => x0 = (treesN n)) := by
  have hst := St.start w0
  refine genter _ hst Try.func16 rfl rfl rfl rfl ?_
  obtain ⟨N, rfl⟩ := Int.eq_ofNat_of_zero_le hp
  repeat' (first
   | (refine kO ?_; first | refine gbs RPl rfl rfl rfl rfl rfl rfl (fun _ => ?_) (fun _ => ?_) | refine gv rfl rfl ?_ | refine gnil ?_ | refine gp rfl (by (try simp only [InR]); omega) rfl ?_ | refine gsh rfl (by (try simp only [InR]); omega) rfl ?_ | refine gsv rfl (by (try simp only [InR, InSh]); omega) rfl ?_ | (refine kK ?_; first | refine gcall rfl ?_ rfl (fun _ _ => ?_) (fun _ _ => ?_) | refine gcv rfl rfl ?_ rfl (fun _ _ => ?_) (fun _ _ => ?_) | refine gcc1 rfl rfl ?_ rfl (fun _ _ => ?_) (fun _ _ => ?_)) | refine gneq rfl rfl (by kernel_rfl) ?_ rfl ?_ | refine gbu rfl rfl rfl rfl rfl ?_ | refine gap rfl rfl rfl (by omega) rfl (fun _ => ?_) (fun _ => ?_) | refine gan rfl rfl rfl (by omega) rfl (fun _ => ?_) (fun _ => ?_) | refine gapz rfl rfl rfl rfl (by omega) rfl (fun _ => ?_) (fun _ => ?_) | refine ganz rfl rfl rfl rfl (by omega) rfl (fun _ => ?_) (fun _ => ?_) | refine gbs RB rfl rfl rfl rfl rfl rfl (fun _ => ?_) (fun _ => ?_) | refine gbb rfl rfl rfl (by first | (simp; done) | (simp only [and_true]; omega)) rfl rfl rfl rfl (fun _ => ?_) (fun _ => ?_) | refine gb rfl rfl rfl rfl ?_ | refine gw rfl rfl ?_)
   | (refine kC ?_; first | refine gseq ?_ | refine greg ?_ | refine gret ?_ | refine gskip ?_ | (refine gcond rfl (fun h => ?_) (fun h => ?_) <;> (first | exact h.elim | (exfalso; omega) | exact absurd h (by assumption) | exact absurd (by assumption) h | skip)) | refine gblk ?_ | refine gexit ?_)
   | (refine kN ?_; first | refine gthen ?_ | refine gnblk ?_)
   | (refine kR ?_; first | refine grs ?_ | refine grb ?_ | refine grl ?_ | refine grc ?_)
   | (refine kX ?_; first | refine gxs ?_ | refine gxb ?_ | refine gxn rfl ?_ | refine gxl ?_ | refine gxc ?_)
   | (refine kR ?_; refine gr rfl (rvT rfl rv0) (⟨_, _, _⟩) rfl (er Ent.nil) ?_)
   | (refine kR ?_; refine gr rfl (rvT rfl rv0) (⟨⟨none, 0⟩, 0, []⟩) rfl (er0 Ent.nil) ?_)
   | (refine Pre.mk ?_; first | exact True.intro | omega | ((repeat' (first | refine And.intro ?_ ?_ | exact True.intro | assumption | omega)); done) | (simp only [and_true, true_and, or_true, true_or]; first | done | omega))
   | (refine kD ?_; first | exact dm_none))
  · simp [treesN, show ¬ ((N : Int) ≤ 1048576) by omega]
  · refine gloop4 [] (fun (j f m : Nat) (s : Sv) K => (0, .int .u64 m) :: (3, .slice s.A j s.c) :: (4, .int .u64 f) :: K) (fun j f m s => [rw_ 32 RPl s j ((trees 0 N).take j)]) (fun j f m s => f + m = N ∧ j + m ≤ N ∧ (trees 0 N).drop j = trees f m) (fun j f m s => m) 0 0 N ⟨none, 0⟩ rfl (by repeat (first | exact trivial | refine ⟨rfl, ?_⟩)) (er0 Ent.nil) ⟨by omega, by omega, rfl⟩ (fun j f m s hi => ?_)
    obtain ⟨hi1, hi3, hi2⟩ := hi
    by_cases h0 : m = 0
    · subst h0
      repeat' (first
       | (refine kO ?_; first | refine gv rfl rfl ?_ | refine gnil ?_ | refine gp rfl (by (try simp only [InR]); omega) rfl ?_ | refine gsh rfl (by (try simp only [InR]); omega) rfl ?_ | refine gsv rfl (by (try simp only [InR, InSh]); omega) rfl ?_ | (refine kK ?_; first | refine gcall rfl ?_ rfl (fun _ _ => ?_) (fun _ _ => ?_) | refine gcv rfl rfl ?_ rfl (fun _ _ => ?_) (fun _ _ => ?_) | refine gcc1 rfl rfl ?_ rfl (fun _ _ => ?_) (fun _ _ => ?_)) | refine gneq rfl rfl (by kernel_rfl) ?_ rfl ?_ | refine gbu rfl rfl rfl rfl rfl ?_ | refine gap rfl rfl rfl (by omega) rfl (fun _ => ?_) (fun _ => ?_) | refine gan rfl rfl rfl (by omega) rfl (fun _ => ?_) (fun _ => ?_) | refine gapz rfl rfl rfl rfl (by omega) rfl (fun _ => ?_) (fun _ => ?_) | refine ganz rfl rfl rfl rfl (by omega) rfl (fun _ => ?_) (fun _ => ?_) | refine gbs RB rfl rfl rfl rfl rfl rfl (fun _ => ?_) (fun _ => ?_) | refine gbb rfl rfl rfl (by first | (simp; done) | (simp only [and_true]; omega)) rfl rfl rfl rfl (fun _ => ?_) (fun _ => ?_) | refine gb rfl rfl rfl rfl ?_ | refine gw rfl rfl ?_)
       | (refine kC ?_; first | refine gseq ?_ | refine greg ?_ | refine gret ?_ | refine gskip ?_ | (refine gcond rfl (fun h => ?_) (fun h => ?_) <;> (first | exact h.elim | (exfalso; omega) | exact absurd h (by assumption) | exact absurd (by assumption) h | skip)) | refine gblk ?_ | refine gexit ?_)
       | (refine kN ?_; first | refine gthen ?_ | refine gnblk ?_)
       | (refine kR ?_; first | refine grs ?_ | refine grb ?_ | refine grl ?_ | refine grc ?_)
       | (refine kX ?_; first | refine gxs ?_ | refine gxb ?_ | refine gxn rfl ?_ | refine gxl ?_ | refine gxc ?_)
       | (refine kR ?_; refine gr rfl (rvT rfl rv0) (⟨_, _, _⟩) rfl (er Ent.nil) ?_)
       | (refine kR ?_; refine gr rfl (rvT rfl rv0) (⟨⟨none, 0⟩, 0, []⟩) rfl (er0 Ent.nil) ?_)
       | (refine Pre.mk ?_; first | exact True.intro | omega | ((repeat' (first | refine And.intro ?_ ?_ | exact True.intro | assumption | omega)); done) | (simp only [and_true, true_and, or_true, true_or]; first | done | omega))
       | (refine kD ?_; first | exact dm_none))
      have h1 : (trees 0 N).length ≤ j := by rw [trees_zero] at hi2; simpa using hi2
      show _ = treesN _
      unfold treesN
      rw [if_pos (by omega), List.take_of_length_le h1]; rfl
    · have hlg := (Nat.log2_eq_iff h0).1 rfl
      have hl20 : Nat.log2 m < 21 := (Nat.log2_lt h0).2 (by omega)
      have hbl : bl (m : Int).toNat = Nat.log2 m + 1 := by rw [Int.toNat_natCast]; exact bl_log h0
      have hq : (2 : Int) ^ ((bl (m : Int).toNat : Int) - 1).toNat = ((2 ^ Nat.log2 m : Nat) : Int) := by rw [hbl]; simp
      repeat' (first
       | (refine kO ?_; first | refine gbs RPl rfl rfl rfl rfl rfl rfl (fun _ => ?_) (fun _ => ?_) | refine gv rfl rfl ?_ | refine gnil ?_ | refine gp rfl (by (try simp only [InR]); omega) rfl ?_ | refine gsh rfl (by (try simp only [InR]); omega) rfl ?_ | refine gsv rfl (by (try simp only [InR, InSh]); omega) rfl ?_ | (refine kK ?_; first | refine gcall rfl ?_ rfl (fun _ _ => ?_) (fun _ _ => ?_) | refine gcv rfl rfl ?_ rfl (fun _ _ => ?_) (fun _ _ => ?_) | refine gcc1 rfl rfl ?_ rfl (fun _ _ => ?_) (fun _ _ => ?_)) | refine gneq rfl rfl (by kernel_rfl) ?_ rfl ?_ | refine gbu rfl rfl rfl rfl rfl ?_ | refine gap rfl rfl rfl (by omega) rfl (fun _ => ?_) (fun _ => ?_) | refine gan rfl rfl rfl (by omega) rfl (fun _ => ?_) (fun _ => ?_) | refine gapz rfl rfl rfl rfl (by omega) rfl (fun _ => ?_) (fun _ => ?_) | refine ganz rfl rfl rfl rfl (by omega) rfl (fun _ => ?_) (fun _ => ?_) | refine gbs RB rfl rfl rfl rfl rfl rfl (fun _ => ?_) (fun _ => ?_) | refine gbb rfl rfl rfl (by first | (simp; done) | (simp only [and_true]; omega)) rfl rfl rfl rfl (fun _ => ?_) (fun _ => ?_) | refine gb rfl rfl rfl rfl ?_ | refine gw rfl rfl ?_)
       | (refine kC ?_; first | refine gseq ?_ | refine greg ?_ | refine gret ?_ | refine gskip ?_ | (refine gcond rfl (fun h => ?_) (fun h => ?_) <;> (first | exact h.elim | (exfalso; omega) | exact absurd h (by assumption) | exact absurd (by assumption) h | skip)) | refine gblk ?_ | refine gexit ?_)
       | (refine kN ?_; first | refine gthen ?_ | refine gnblk ?_)
       | (refine kR ?_; first | refine grs ?_ | refine grb ?_ | refine grl ?_ | refine grc ?_)
       | (refine kX ?_; first | refine gxs ?_ | refine gxb ?_ | refine gxn rfl ?_ | refine gxl ?_ | refine gxc ?_)
       | (refine kR ?_; refine gr rfl (rvT rfl rv0) (⟨_, _, _⟩) rfl (er Ent.nil) ?_)
       | (refine kR ?_; refine gr rfl (rvT rfl rv0) (⟨⟨none, 0⟩, 0, []⟩) rfl (er0 Ent.nil) ?_)
       | (refine Pre.mk ?_; first | exact True.intro | omega | ((repeat' (first | refine And.intro ?_ ?_ | exact True.intro | assumption | omega)); done) | (simp only [and_true, true_and, or_true, true_or]; first | done | omega))
       | (refine kD ?_; first | exact dm_none))
      rename_i s'
      rw [trees_step h0] at hi2
      obtain ⟨t1, t2, t3⟩ := take_of_drop hi2
      have e3 : ((bl (m : Int).toNat : Int) - 1) = (Nat.log2 m : Int) := by rw [hbl]; omega
      have e4 : (f : Int) + ((2 ^ Nat.log2 m : Nat) : Int) = ((f + 2 ^ Nat.log2 m : Nat) : Int) := by omega
      have e5 : (f : Int) / ((2 ^ Nat.log2 m : Nat) : Int) = ((f / 2 ^ Nat.log2 m : Nat) : Int) := by simp
      have hq2 : (2 : Int) ^ ((Nat.log2 m : Nat) : Int).toNat = ((2 ^ Nat.log2 m : Nat) : Int) := by simp
      simp only [e3, hq2, Int.one_mul, andNot_top h0 (show m < 2 ^ 64 by omega), e4, e5]
      refine gnl4 (j + 1) (f + 2 ^ Nat.log2 m) (m - 2 ^ Nat.log2 m) s' (by repeat (first | exact trivial | refine ⟨rfl, ?_⟩)) ?_ ⟨by omega, by omega, t2⟩ (by omega)
      rw [t1]; exact er Ent.nil
instance c_pl_trees {n : Int} {w0 : World} {X : Nat → Prop} {L : List Assn}  : Ctr Try.prog 16 [.int .u64 n] w0 X L (0 ≤ n) (fun s0 : Sv => .slice s0.A (treesN n).length s0.c) (fun s0 : Sv => rw_ 32 RPl s0 (treesN n).length (treesN n) :: L) (fun s0 : Sv => True) :=
  ctr' (M' := (fun s0 : Sv => [rw_ 32 RPl s0 (treesN n).length (treesN n)])) (by kernel_rfl) (fun hp w hw => by exact pl_trees _ w hp) (by rintro hp ⟨s0, n0, x0⟩ rfl ok; cases ok.row; exact ⟨s0, rfl, rfl, trivial⟩)
end Go.Proofs.Ytjiglibogmehfaa
