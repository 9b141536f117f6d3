/-
  PLAIN FUNCTIONS ON BYTES: numbers, counts, rows; no Go in sight.
-/
import Derived.Test.YtalainpmlonahaaDoorMb
set_option linter.all false
set_option maxHeartbeats 4000000
namespace Go.Proofs.YtalainpmlonahaaDoor

def byteAt (n : Int) (i : Nat) : UInt8 := u8 (n / 2 ^ (8 * i))
def lowS (n : Int) (k : Nat) : List UInt8 := (List.range k).map (byteAt n)
def numS : List UInt8 → Int
  | [] => 0
  | x :: r => x.toNat + 256 * numS r
@[reducible] def sizeOk (n : Int) : Bool := decide (n = 1 ∨ n = 2 ∨ n = 4 ∨ n = 8)
def partE (l : List UInt8) (i k : Int) : Int := if i < 0 ∨ (l.length : Int) < i ∨ k < 0 then 2 else if (l.length : Int) - i < k then 4 else 0
def partL (l : List UInt8) (i k : Int) : List UInt8 := if partE l i k = 0 then (l.drop i.toNat).take k.toNat else []
def putE (n : Int) (k : Int) : Int := if sizeOk k = true ∧ (k < 8 → n / 2 ^ (8 * k).toNat = 0) then 0 else 2
def putL (n : Int) (k : Int) : List UInt8 := if putE n k = 0 then lowS n k.toNat else []
def getE (l : List UInt8) (i k : Int) : Int := if sizeOk k = true then partE l i k else 2
def getN (l : List UInt8) (i k : Int) : Int := if getE l i k = 0 then numS (partL l i k) else 0
def countS (n : Int) : List UInt8 :=
  if n < 253 then lowS n 1 else if n / 2 ^ 16 = 0 then u8 253 :: lowS n 2 else if n / 2 ^ 32 = 0 then u8 254 :: lowS n 4 else u8 255 :: lowS n 8
def manyOf (first : Int) : Int := if first = 253 then 2 else if first = 254 then 4 else 8
def countE (l : List UInt8) (i : Int) : Int :=
  if getE l i 1 ≠ 0 then getE l i 1 else
  if getN l i 1 < 253 then 0 else
  if getE l (i + 1) (manyOf (getN l i 1)) ≠ 0 then getE l (i + 1) (manyOf (getN l i 1)) else
  if ((countS (getN l (i + 1) (manyOf (getN l i 1)))).length : Int) ≤ manyOf (getN l i 1) then 5 else 0
def countN (l : List UInt8) (i : Int) : Int := if countE l i ≠ 0 then 0 else if getN l i 1 < 253 then getN l i 1 else getN l (i + 1) (manyOf (getN l i 1))
def countX (l : List UInt8) (i : Int) : Int := if countE l i ≠ 0 then 0 else if getN l i 1 < 253 then i + 1 else i + 1 + manyOf (getN l i 1)
def rowS (l : List UInt8) : List UInt8 := countS l.length ++ l
def rowE (l : List UInt8) (i most : Int) : Int :=
  if countE l i ≠ 0 then countE l i else if most < 0 ∨ most < countN l i then 3 else partE l (countX l i) (countN l i)
def rowL (l : List UInt8) (i most : Int) : List UInt8 := if rowE l i most = 0 then partL l (countX l i) (countN l i) else []
def rowX (l : List UInt8) (i most : Int) : Int := if rowE l i most = 0 then countX l i + countN l i else 0

theorem u8_toNat (z : Int) : ((u8 z).toNat : Int) = z % 256 := by
  simp only [u8, UInt8.toNat_ofNat']
  have : 0 ≤ z % 256 ∧ z % 256 < 256 := by omega
  omega
theorem u8_mod (z : Int) : u8 (z % 256) = u8 z := by unfold u8; congr 2; omega
theorem partE_ok {l : List UInt8} {i k : Int} (h : partE l i k = 0) : 0 ≤ i ∧ 0 ≤ k ∧ i + k ≤ l.length := by
  unfold partE at h; split at h
  · cases h
  · split at h
    · cases h
    · omega
theorem partL_len {l : List UInt8} {i k : Int} (h : partE l i k = 0) : ((partL l i k).length : Int) = k := by
  have := partE_ok h
  unfold partL; rw [if_pos h]; simp; omega
theorem partL_le (l : List UInt8) (i k : Int) : (partL l i k).length ≤ l.length := by
  unfold partL; split
  · simp; omega
  · simp
theorem lowS_len (n : Int) (k : Nat) : (lowS n k).length = k := by simp [lowS]
theorem lowS_succ (n : Int) (k : Nat) : lowS n (k + 1) = lowS n k ++ [byteAt n k] := by simp [lowS, List.range_succ]
theorem countS_len (n : Int) : (countS n).length = if n < 253 then 1 else if n / 2 ^ 16 = 0 then 3 else if n / 2 ^ 32 = 0 then 5 else 9 := by
  unfold countS; repeat' split
  all_goals simp [lowS_len]
theorem countS_b (n : Int) : 1 ≤ (countS n).length ∧ (countS n).length ≤ 9 := by
  rw [countS_len]; repeat' split
  all_goals omega
theorem numS_b : ∀ l : List UInt8, 0 ≤ numS l ∧ numS l < 2 ^ (8 * l.length)
  | [] => by simp [numS]
  | x :: r => by
    have ih := numS_b r
    have hx : x.toNat < 256 := x.toNat_lt
    have e : (2 : Int) ^ (8 * (x :: r).length) = 256 * 2 ^ (8 * r.length) := by
      rw [List.length_cons, Nat.mul_add, Int.pow_add]; omega
    rw [e]; simp only [numS]; omega
theorem numS_append : ∀ (l r : List UInt8), numS (l ++ r) = numS l + 2 ^ (8 * l.length) * numS r
  | [], r => by simp [numS]
  | x :: l, r => by
    have ih := numS_append l r
    have e : (2 : Int) ^ (8 * (x :: l).length) = 256 * 2 ^ (8 * l.length) := by
      rw [List.length_cons, Nat.mul_add, Int.pow_add]; omega
    simp only [List.cons_append, numS, ih, e, Int.mul_add, Int.mul_assoc]; omega
theorem sizeOk_c {k : Int} (h : sizeOk k = true) : k = 1 ∨ k = 2 ∨ k = 4 ∨ k = 8 := by simpa [sizeOk] using h
theorem getN_b (l : List UInt8) (i k : Int) : 0 ≤ getN l i k ∧ getN l i k ≤ 18446744073709551615 := by
  unfold getN; split
  · rename_i h
    unfold getE at h; split at h
    · rename_i hs
      have h3 := numS_b (partL l i k)
      have h4 := partL_len h
      have h1 := sizeOk_c hs
      have h5 : (2 : Int) ^ (8 * (partL l i k).length) ≤ 2 ^ 64 := by exact_mod_cast Nat.pow_le_pow_right (by decide) (by omega : 8 * (partL l i k).length ≤ 64)
      omega
    · omega
  · omega
theorem getN_1 (l : List UInt8) (i : Int) : getN l i 1 ≤ 255 := by
  unfold getN; split
  · rename_i h
    have h1 : partE l i 1 = 0 := by unfold getE at h; simpa [sizeOk] using h
    have := partL_len h1
    have h2 := numS_b (partL l i 1)
    have h3 : (partL l i 1).length = 1 := by omega
    rw [h3] at h2; omega
  · omega
theorem manyOf_b (f : Int) : manyOf f = 2 ∨ manyOf f = 4 ∨ manyOf f = 8 := by unfold manyOf; split <;> (try split) <;> omega
theorem countN_b (l : List UInt8) (i : Int) : 0 ≤ countN l i ∧ countN l i ≤ 18446744073709551615 := by
  unfold countN; split
  · omega
  · split
    · exact getN_b _ _ _
    · exact getN_b _ _ _
theorem rowS_len (l : List UInt8) : l.length + 1 ≤ (rowS l).length ∧ (rowS l).length ≤ l.length + 9 := by
  have := countS_b l.length
  simp [rowS]; omega
end Go.Proofs.YtalainpmlonahaaDoor
