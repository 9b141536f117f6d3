/-
  Numbers as cells: plain laws. No program in sight.
-/
import Derived.Test.YtkjpemkankefnaaDoorEb
import Derived.Test.YtkjpemkankefnaaDoorVplain
set_option linter.all false
set_option maxRecDepth 100000
namespace Go.Proofs.YtkjpemkankefnaaDoor
open Go.RowKit

/-- a number's bytes -/
def cellF : Nat → Int → List UInt8
  | 0, _ => []
  | f + 1, m => u8 m :: (if -128 ≤ m ∧ m ≤ 127 then [] else cellF f (m / 256))
def cellB (n : Int) : List UInt8 := if n = 0 then [] else cellF 8 n
/-- the number of bytes -/
def sgn : List UInt8 → Int
  | [] => 0
  | c :: r => if r = [] then (if (c.toNat : Int) < 128 then c.toNat else c.toNat - 256) else (c.toNat : Int) + 256 * sgn r
theorem u8N (m : Int) : ((u8 m).toNat : Int) = m % 256 := u8_toNat m
theorem sgn_cellF : ∀ (f : Nat) (m : Int), -(128 * 256 ^ f : Nat) ≤ m → m < (128 * 256 ^ f : Nat) → sgn (cellF (f + 1) m) = m ∧ cellF (f + 1) m ≠ []
  | 0, m, h1, h2 => by
    simp only [Nat.pow_zero, Nat.mul_one] at h1 h2
    unfold cellF
    rw [if_pos (by omega)]
    refine ⟨?_, by simp⟩
    unfold sgn
    rw [if_pos rfl, u8N]
    split <;> omega
  | f + 1, m, h1, h2 => by
    unfold cellF
    refine ⟨?_, by simp⟩
    split
    · unfold sgn
      rw [if_pos rfl, u8N]
      split <;> omega
    · have e : (128 * 256 ^ (f + 1) : Nat) = 256 * (128 * 256 ^ f : Nat) := by rw [Nat.pow_succ]; omega
      rw [e] at h1 h2
      generalize hq : (128 * 256 ^ f : Nat) = q at *
      obtain ⟨i1, i2⟩ := sgn_cellF f (m / 256) (by rw [hq]; omega) (by rw [hq]; omega)
      unfold sgn
      rw [if_neg i2, i1, u8N]; omega
theorem sgn_cellB {n : Int} (h1 : -9223372036854775808 ≤ n) (h2 : n ≤ 9223372036854775807) : sgn (cellB n) = n := by
  unfold cellB
  split
  · rename_i h; rw [h]; rfl
  · exact (sgn_cellF 7 n (by simp only [Nat.reducePow, Nat.reduceMul]; omega) (by simp only [Nat.reducePow, Nat.reduceMul]; omega)).1
theorem cellF_len : ∀ (f : Nat) (m : Int), (cellF f m).length ≤ f
  | 0, m => by simp [cellF]
  | f + 1, m => by
    unfold cellF
    have := cellF_len f (m / 256)
    split <;> simp <;> omega
theorem cellB_len (n : Int) : (cellB n).length ≤ 8 := by
  unfold cellB; split
  · simp
  · exact cellF_len 8 n
theorem sgn_b : ∀ (b : List UInt8), -(128 * 256 ^ (b.length - 1) : Nat) ≤ sgn b ∧ sgn b < (128 * 256 ^ (b.length - 1) : Nat)
  | [] => by simp [sgn]
  | [c] => by
    have := c.toNat_lt
    simp only [sgn, if_true, List.length_singleton, Nat.sub_self, Nat.pow_zero, Nat.mul_one]
    split <;> omega
  | c :: d :: r => by
    have h := c.toNat_lt
    have ih := sgn_b (d :: r)
    have e : (128 * 256 ^ ((c :: d :: r).length - 1) : Nat) = 256 * (128 * 256 ^ ((d :: r).length - 1) : Nat) := by
      simp only [List.length_cons, Nat.add_sub_cancel, Nat.pow_succ]; omega
    rw [e]
    generalize (128 * 256 ^ ((d :: r).length - 1) : Nat) = q at *
    unfold sgn
    rw [if_neg (by simp)]
    omega
theorem sgn_64 {b : List UInt8} (h : b.length ≤ 8) : -9223372036854775808 ≤ sgn b ∧ sgn b ≤ 9223372036854775807 := by
  have h1 := sgn_b b
  have h2 : (128 * 256 ^ (b.length - 1) : Nat) ≤ 128 * 256 ^ 7 := Nat.mul_le_mul_left _ (Nat.pow_le_pow_right (by omega) (by omega))
  simp only [Nat.reducePow, Nat.reduceMul] at h2
  omega
/-- little end first, without a sign -/
def uns : List UInt8 → Int
  | [] => 0
  | c :: r => (c.toNat : Int) + 256 * uns r
theorem uns_b : ∀ (b : List UInt8), 0 ≤ uns b ∧ uns b < (256 ^ b.length : Nat)
  | [] => by simp [uns]
  | c :: r => by
    have h := c.toNat_lt
    have ih := uns_b r
    have e : (256 ^ (c :: r).length : Nat) = 256 * (256 ^ r.length : Nat) := by rw [List.length_cons, Nat.pow_succ]; omega
    rw [e]
    generalize (256 ^ r.length : Nat) = q at *
    unfold uns; omega
theorem sgn_uns : ∀ {b : List UInt8}, b ≠ [] → sgn b = if 2 * uns b < (256 ^ b.length : Nat) then uns b else uns b - (256 ^ b.length : Nat)
  | [], h => absurd rfl h
  | [c], _ => by
    have := c.toNat_lt
    simp only [sgn, uns, if_true, List.length_singleton, Nat.pow_one]
    split <;> split <;> omega
  | c :: d :: r, _ => by
    have h := c.toNat_lt
    have ih := sgn_uns (b := d :: r) (by simp)
    have e : (256 ^ (c :: d :: r).length : Nat) = 256 * (256 ^ (d :: r).length : Nat) := by rw [List.length_cons, Nat.pow_succ]; omega
    have hb := uns_b (d :: r)
    rw [e]
    have hev : (256 ^ (d :: r).length : Nat) = 256 * 256 ^ r.length := by rw [List.length_cons, Nat.pow_succ]; omega
    rw [hev] at ih hb ⊢
    unfold sgn
    rw [if_neg (by simp), ih, show uns (c :: d :: r) = (c.toNat : Int) + 256 * uns (d :: r) from rfl]
    generalize uns (d :: r) = x at *
    generalize 256 ^ r.length = q at *
    split <;> split <;> omega
theorem uns_snoc (b : List UInt8) (c : UInt8) : uns (b ++ [c]) = uns b + (256 ^ b.length : Nat) * (c.toNat : Int) := by
  induction b with
  | nil => simp [uns]
  | cons a r ih =>
    rw [List.cons_append, uns, ih, uns, List.length_cons, Nat.pow_succ]
    have e : ((256 ^ r.length * 256 : Nat) : Int) * (c.toNat : Int) = 256 * (((256 ^ r.length : Nat) : Int) * (c.toNat : Int)) := by
      rw [Int.natCast_mul, Int.mul_comm ((256 ^ r.length : Nat) : Int), Int.mul_assoc]; rfl
    rw [e]; omega
/-- the first k bytes of a number -/
def leB : Nat → Int → List UInt8
  | 0, _ => []
  | k + 1, m => u8 m :: leB k (m / 256)
theorem leB_len : ∀ (k : Nat) (m : Int), (leB k m).length = k
  | 0, _ => rfl
  | k + 1, m => by unfold leB; rw [List.length_cons, leB_len]
theorem leB_snoc : ∀ (k : Nat) (m : Int), leB (k + 1) m = leB k m ++ [u8 (m / (256 ^ k : Nat))]
  | 0, m => by simp [leB]
  | k + 1, m => by
    rw [leB, leB_snoc k (m / 256), leB, List.cons_append]
    congr 3
    rw [Int.ediv_ediv_of_nonneg (by omega), Nat.pow_succ]
    congr 1
    rw [Int.natCast_mul, Int.mul_comm]; rfl
/-- k bytes tell it -/
def fits (n : Int) (k : Nat) : Prop := if k = 0 then n = 0 else -(128 * 256 ^ (k - 1) : Nat) ≤ n ∧ n < (128 * 256 ^ (k - 1) : Nat)
theorem sgn_leB : ∀ (k : Nat) (n : Int), sgn (leB k n) = n ↔ fits n k
  | 0, n => by simp [leB, sgn, fits, eq_comm]
  | 1, n => by
    simp only [leB, sgn, fits, if_true, u8N]
    simp only [Nat.sub_self, Nat.pow_zero, Nat.mul_one, Nat.one_ne_zero, if_false]
    split <;> omega
  | k + 2, n => by
    have ih := sgn_leB (k + 1) (n / 256)
    have hne : leB (k + 1) (n / 256) ≠ [] := by simp [leB]
    rw [leB, sgn, if_neg hne, u8N]
    unfold fits at ih ⊢
    simp only [Nat.add_one_ne_zero, if_false, Nat.add_sub_cancel] at ih ⊢
    have e : (128 * 256 ^ (k + 1) : Nat) = 256 * (128 * 256 ^ k : Nat) := by rw [Nat.pow_succ]; omega
    rw [show k + 2 - 1 = k + 1 by omega, e]
    generalize (128 * 256 ^ k : Nat) = q at *
    constructor
    · intro h
      have := ih.1 (by omega)
      omega
    · intro h
      have := ih.2 (by omega)
      omega
theorem cellF_eq : ∀ (f : Nat) (m : Int) (k : Nat), 0 < k → k ≤ f → (∀ j, 0 < j → j < k → ¬ fits m j) → fits m k → cellF f m = leB k m
  | 0, m, k, h0, h1, _, _ => by omega
  | f + 1, m, k, h0, h1, h2, h3 => by
    obtain ⟨k, rfl⟩ : ∃ j, k = j + 1 := ⟨k - 1, by omega⟩
    unfold cellF
    by_cases hk : k = 0
    · subst hk
      unfold fits at h3
      simp only [Nat.add_sub_cancel, Nat.pow_zero, Nat.mul_one] at h3
      simp only [Nat.zero_add, Nat.one_ne_zero, if_false] at h3
      rw [if_pos (by omega)]; rfl
    · have hn := h2 1 (by omega) (by omega)
      unfold fits at hn
      simp only [Nat.sub_self, Nat.pow_zero, Nat.mul_one, Nat.one_ne_zero, if_false] at hn
      rw [if_neg (by omega), leB]
      congr 1
      have up : ∀ j, 0 < j → (fits m (j + 1) ↔ fits (m / 256) j) := fun j hj => by
        unfold fits
        rw [if_neg (by omega), if_neg (by omega)]
        have e : (128 * 256 ^ (j + 1 - 1) : Nat) = 256 * (128 * 256 ^ (j - 1) : Nat) := by
          obtain ⟨i, rfl⟩ : ∃ i, j = i + 1 := ⟨j - 1, by omega⟩
          simp only [Nat.add_sub_cancel, Nat.pow_succ]; omega
        rw [e]
        generalize (128 * 256 ^ (j - 1) : Nat) = q at *
        omega
      refine cellF_eq f (m / 256) k (by omega) (by omega) (fun j hj1 hj2 hf => h2 (j + 1) (by omega) (by omega) ((up j hj1).2 hf)) ((up k (by omega)).1 h3)
theorem cellB_eq {n : Int} {k : Nat} (hk : k ≤ 8) (h1 : ∀ j, j < k → ¬ fits n j) (h2 : fits n k) : cellB n = leB k n := by
  unfold cellB
  by_cases h0 : n = 0
  · rw [if_pos h0]
    have : k = 0 := by
      by_cases hk : k = 0
      · exact hk
      · exact absurd h0 (h1 0 (by omega))
    subst this; rfl
  · rw [if_neg h0]
    have : k ≠ 0 := fun e => by subst e; exact h0 h2
    exact cellF_eq 8 n k (by omega) hk (fun j _ hj => h1 j hj) h2
theorem fits8 {n : Int} (h1 : -9223372036854775808 ≤ n) (h2 : n ≤ 9223372036854775807) : fits n 8 := by
  unfold fits; rw [if_neg (by omega)]; simp only [Nat.reduceSub, Nat.reducePow, Nat.reduceMul]; omega
/-- with the same length it is the same -/
theorem leB_sgn : ∀ (b : List UInt8), leB b.length (sgn b) = b
  | [] => rfl
  | [c] => by
    have := c.toNat_lt
    simp only [List.length_singleton, leB, sgn, if_true]
    have h2 := u8N (if (c.toNat : Int) < 128 then (c.toNat : Int) else (c.toNat : Int) - 256)
    generalize u8 (if (c.toNat : Int) < 128 then (c.toNat : Int) else (c.toNat : Int) - 256) = z at *
    congr 1
    apply UInt8.toNat_inj.1
    split at h2 <;> omega
  | c :: d :: r => by
    have h := c.toNat_lt
    have ih := leB_sgn (d :: r)
    rw [List.length_cons, leB, sgn, if_neg (by simp)]
    have e : ((c.toNat : Int) + 256 * sgn (d :: r)) / 256 = sgn (d :: r) := by omega
    rw [e, ih]
    congr 1
    apply UInt8.toNat_inj.1
    have := u8N ((c.toNat : Int) + 256 * sgn (d :: r))
    omega
theorem cell_same {b : List UInt8} (hb : b.length ≤ 8) : cellB (sgn b) = b ↔ (cellB (sgn b)).length = b.length := by
  constructor
  · intro h; rw [h]
  · intro h
    have hs := sgn_64 hb
    obtain ⟨k, hk8, hk1, hk2⟩ : ∃ k, k ≤ 8 ∧ (∀ j, j < k → ¬ fits (sgn b) j) ∧ fits (sgn b) k := by
      have key : ∀ m, m ≤ 8 → (∀ j, j < m → ¬ fits (sgn b) j) ∨ ∃ k, k < m ∧ (∀ j, j < k → ¬ fits (sgn b) j) ∧ fits (sgn b) k := by
        intro m
        induction m with
        | zero => exact fun _ => .inl fun j hj => by omega
        | succ m ih =>
          intro hm
          rcases ih (by omega) with h | ⟨k, h1, h2⟩
          · by_cases hf : fits (sgn b) m
            · exact .inr ⟨m, by omega, h, hf⟩
            · left; intro j hj
              by_cases e : j = m
              · subst e; exact hf
              · exact h j (by omega)
          · exact .inr ⟨k, by omega, h2⟩
      rcases key 8 (by omega) with h | ⟨k, h1, h2⟩
      · exact ⟨8, by omega, h, fits8 hs.1 hs.2⟩
      · exact ⟨k, by omega, h2⟩
    have e := cellB_eq hk8 hk1 hk2
    rw [e, leB_len] at h
    rw [e, h, leB_sgn]
end Go.Proofs.YtkjpemkankefnaaDoor
