/-
  PLAIN FUNCTIONS: points, outputs, coins as bytes; no Go in sight.
-/
import Derived.Test.YtalainpmlonahaaDoorVplain
import Derived.Test.YtalainpmlonahaaDoorVtypes
set_option linter.all false
set_option maxHeartbeats 4000000
namespace Go.Proofs.YtalainpmlonahaaDoor

def pointB (tx : List UInt8) (n ht : Int) : List UInt8 := tx ++ putL n 2 ++ putL ht 4
def ptE (l : List UInt8) (i : Int) : Int := partE l i 38
def ptH (l : List UInt8) (i : Int) : Hsh := if ptE l i = 0 then toH ((partL l i 38).take 32) else zH
def ptN (l : List UInt8) (i : Int) : Int := if ptE l i = 0 then getN (partL l i 38) 32 2 else 0
def ptT (l : List UInt8) (i : Int) : Int := if ptE l i = 0 then getN (partL l i 38) 34 4 else 0
def ptX (l : List UInt8) (i : Int) : Int := if ptE l i = 0 then i + 38 else 0
@[reducible] def mayO (v : Int) (lock : List UInt8) : Prop := v ≤ 1125899906842624 ∧ lock.length ≤ 100
def outE (v : Int) (lock : List UInt8) : Int := if mayO v lock then 0 else 2
def outL (v : Int) (lock : List UInt8) : List UInt8 := if mayO v lock then putL v 8 ++ rowS lock else []
def valE (l : List UInt8) (i : Int) : Int := if getE l i 8 = 0 ∧ 1125899906842624 < getN l i 8 then 5 else getE l i 8
def goE (l : List UInt8) (i : Int) : Int := if valE l i ≠ 0 then valE l i else rowE l (i + 8) 100
def goV (l : List UInt8) (i : Int) : Int := if goE l i = 0 then getN l i 8 else 0
def goL (l : List UInt8) (i : Int) : List UInt8 := if goE l i = 0 then rowL l (i + 8) 100 else []
def goX (l : List UInt8) (i : Int) : Int := if goE l i = 0 then rowX l (i + 8) 100 else 0
def coinL (tx : List UInt8) (n ht v : Int) (base : Bool) (lock : List UInt8) : List UInt8 :=
  if mayO v lock then pointB tx n ht ++ putL v 8 ++ [u8 (if base then 1 else 0)] ++ rowS lock else []

theorem getN_pow (l : List UInt8) (i : Int) (k : Nat) : getN l i k < 2 ^ (8 * k) := by
  unfold getN; split
  · rename_i h
    have h3 := numS_b (partL l i k)
    have h4 : ((partL l i k).length : Int) = k := partL_len (by unfold getE at h; split at h; exact h; cases h)
    have h5 : (partL l i k).length = k := by omega
    rw [h5] at h3; exact h3.2
  · exact_mod_cast Nat.two_pow_pos _
theorem getN_2 (l : List UInt8) (i : Int) : getN l i 2 ≤ 65535 := by have := getN_pow l i 2; simp at this; omega
theorem getN_4 (l : List UInt8) (i : Int) : getN l i 4 ≤ 4294967295 := by have := getN_pow l i 4; simp at this; omega
/-- a number that fits -/
@[reducible] def Fit (n k : Int) : Prop := 0 ≤ n ∧ (k = 2 ∧ n ≤ 65535 ∨ k = 4 ∧ n ≤ 4294967295 ∨ k = 8 ∧ n ≤ 18446744073709551615)
theorem putE_fit {n k : Int} (h : Fit n k) : putE n k = 0 := by
  obtain ⟨h0, ⟨rfl, h⟩ | ⟨rfl, h⟩ | ⟨rfl, h⟩⟩ := h <;> simp [putE, sizeOk] <;> omega
theorem putL_len {n k : Int} (h : Fit n k) : ((putL n k).length : Int) = k := by
  unfold putL; rw [if_pos (putE_fit h), lowS_len]; omega
theorem pointB_len {tx : List UInt8} {n ht : Int} (h : tx.length = 32) (hn : 0 ≤ n ∧ n ≤ 65535 ∧ 0 ≤ ht ∧ ht ≤ 4294967295) : (pointB tx n ht).length = 38 := by
  have h1 := putL_len (n := n) (k := 2) (by unfold Fit; omega)
  have h2 := putL_len (n := ht) (k := 4) (by unfold Fit; omega)
  simp [pointB, h]; omega
theorem rowL_le (l : List UInt8) (i most : Int) : ((rowL l i most).length : Int) ≤ most ∨ rowL l i most = [] := by
  unfold rowL; split
  · rename_i h
    unfold rowE at h
    split at h
    · contradiction
    · split at h
      · cases h
      · have := partL_len h; omega
  · exact .inr rfl
theorem rowE_ok {l : List UInt8} {i most : Int} (h : rowE l i most = 0) : countE l i = 0 ∧ 0 ≤ most ∧ countN l i ≤ most ∧ partE l (countX l i) (countN l i) = 0 ∧ rowX l i most = countX l i + countN l i ∧ rowL l i most = partL l (countX l i) (countN l i) ∧ ((rowL l i most).length : Int) = countN l i := by
  have h0 := h
  unfold rowE at h
  split at h
  · contradiction
  · split at h
    · cases h
    · refine ⟨by omega, by omega, by omega, h, by simp [rowX, h0], by simp [rowL, h0], ?_⟩
      unfold rowL; rw [if_pos h0]; exact partL_len h
theorem pt_b (l : List UInt8) (i : Int) : 0 ≤ ptN l i ∧ ptN l i ≤ 65535 ∧ 0 ≤ ptT l i ∧ ptT l i ≤ 4294967295 := by
  have h1 := getN_2 (partL l i 38) 32
  have h2 := getN_4 (partL l i 38) 34
  have h3 := getN_b (partL l i 38) 32 2
  have h4 := getN_b (partL l i 38) 34 4
  unfold ptN ptT; split <;> omega
theorem pt_ok {l : List UInt8} {i : Int} (h : ptE l i = 0) : ptX l i = i + 38 ∧ 0 ≤ i ∧ i + 38 ≤ l.length := by
  have h1 := partE_ok (show partE l i 38 = 0 from h)
  unfold ptX; rw [if_pos h]; omega
theorem outL_len (v : Int) (lock : List UInt8) (h : 0 ≤ v ∧ v ≤ 18446744073709551615) : (outL v lock).length ≤ 117 := by
  have h1 := rowS_len lock
  have h2 := putL_len (n := v) (k := 8) (by unfold Fit; omega)
  unfold outL; split
  · rename_i h3; simp [mayO] at h3 ⊢; omega
  · simp
theorem valE_ok {l : List UInt8} {i : Int} (h : valE l i = 0) : 0 ≤ i ∧ i + 8 ≤ l.length := by
  have : getE l i 8 = 0 := by unfold valE at h; split at h <;> omega
  have h1 := partE_ok (l := l) (i := i) (k := 8) (by unfold getE at this; simpa [sizeOk] using this)
  omega
theorem countE_ok {l : List UInt8} {i : Int} (h : countE l i = 0) : 0 ≤ i ∧ i + 1 ≤ countX l i ∧ countX l i ≤ i + 9 ∧ countX l i ≤ l.length := by
  have h0 := h
  have hm := manyOf_b (getN l i 1)
  have key : ∀ j k, getE l j k = 0 → 0 ≤ j ∧ 0 ≤ k ∧ j + k ≤ l.length := fun j k he => partE_ok (by unfold getE at he; split at he; exact he; cases he)
  unfold countX; rw [if_neg (by omega)]
  unfold countE at h
  split at h
  · contradiction
  · rename_i h1
    have k1 := key i 1 (by omega)
    split
    · omega
    · rw [if_neg (by assumption)] at h
      split at h
      · contradiction
      · rename_i h2
        have k2 := key (i + 1) (manyOf (getN l i 1)) (by omega)
        omega
theorem rowE_b {l : List UInt8} {i most : Int} (h : rowE l i most = 0) : 0 ≤ i ∧ i + 1 ≤ rowX l i most ∧ rowX l i most ≤ l.length ∧ rowX l i most ≤ i + 9 + most ∧ i + 1 + (rowL l i most).length ≤ rowX l i most ∧ ((rowL l i most).length : Int) ≤ most := by
  obtain ⟨a, b, c, d, e, f, g⟩ := rowE_ok h
  have h1 := countE_ok a
  have h2 := partE_ok d
  have h3 := countN_b l i
  rw [e]; omega
theorem go_ok (l : List UInt8) (i : Int) : (0 ≤ goV l i ∧ goV l i ≤ 1125899906842624) ∧ (goL l i).length ≤ 100 ∧ (goE l i = 0 → 0 ≤ i ∧ i + 9 ≤ goX l i ∧ goX l i ≤ l.length) := by
  have h1 := getN_b l i 8
  refine ⟨?_, ?_, fun h => ?_⟩
  · unfold goV; split
    · rename_i h; unfold goE at h; split at h
      · contradiction
      · rename_i h2
        have h2 : valE l i = 0 := by omega
        unfold valE at h2; split at h2 <;> omega
    · omega
  · unfold goL; split
    · have := rowL_le l (i + 8) 100
      rcases this with h | h
      · omega
      · rw [h]; simp
    · simp
  · have h0 := h
    unfold goE at h; split at h
    · contradiction
    · have h2 := rowE_b h
      unfold goX; rw [if_pos h0]
      have h3 := valE_ok (l := l) (i := i) (by omega)
      omega
theorem coinL_len {tx : List UInt8} {n ht v : Int} {base : Bool} {lock : List UInt8} (h : tx.length = 32) (hp : 0 ≤ n ∧ n ≤ 65535 ∧ 0 ≤ ht ∧ ht ≤ 4294967295 ∧ 0 ≤ v ∧ v ≤ 18446744073709551615) : (coinL tx n ht v base lock).length ≤ 156 := by
  have h1 := rowS_len lock
  have h2 := putL_len (n := v) (k := 8) (by unfold Fit; omega)
  have h3 := pointB_len (n := n) (ht := ht) h (by omega)
  unfold coinL; split
  · rename_i h4; simp [mayO] at h4 ⊢; omega
  · simp
end Go.Proofs.YtalainpmlonahaaDoor
