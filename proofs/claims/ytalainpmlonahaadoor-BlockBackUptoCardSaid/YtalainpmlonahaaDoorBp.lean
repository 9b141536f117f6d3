/-
  The root of a list of hashes: plain laws.
-/
import Derived.Test.YtalainpmlonahaaDoorVshaP
import Derived.Test.YtalainpmlonahaaDoorVtypes
set_option linter.all false
set_option maxRecDepth 100000
namespace Go.Proofs.YtalainpmlonahaaDoor
open Go.RowKit

instance ih_1 : DecidableEq Hsh := fun a b => if h : a.l = b.l then isTrue (by cases a; cases b; cases h; rfl) else isFalse (fun e => h (by rw [e]))
/-! rows of hashes -/
def RHs : Rep Hsh := ⟨32, fun h => [.blk 32 (RB.all h.l)], by decide, fun h => ⟨OkS.blk.h.1, rfl, OkS.blk.h.2⟩⟩
instance ih_2 : SzIs RHs 32 := ⟨rfl⟩
instance ih_3 {h : Hsh} : Elm RHs (.agg (flat [.blk 32 (RB.all h.l)]).toArray) h := ⟨by simp [Value.cells, RHs]⟩
instance ih_4 : EL Tryd.prog 30 32 32 := ⟨by
  obtain ⟨i, h1, h2, h3, h4⟩ := info_parts (show (Tryd.prog.info? 30).map (fun i => (i.zero, i.size, i.bytes)) = some (some (.agg (flat (RHs.sg default)).toArray), 32, 32) by kernel_rfl)
  exact ⟨i, _, h1, h2, h3, h4, rfl, by decide⟩⟩
instance ih_5 : ZE Tryd.prog 30 RHs default := ⟨by kernel_rfl, by kernel_rfl⟩
def bothH (a b : Hsh) : Hsh := sha2 (a.l ++ b.l)
def upL : List Hsh → List Hsh
  | [] => []
  | [a] => [bothH a a]
  | a :: b :: r => bothH a b :: upL r
def upS : List Hsh → Bool
  | a :: b :: r => decide (a ≠ b) && upS r
  | _ => true
theorem upL_len : ∀ l : List Hsh, (upL l).length = (l.length + 1) / 2
  | [] => by simp [upL]
  | [_] => by simp [upL]
  | _ :: _ :: r => by simp only [upL, List.length_cons, upL_len r]; omega
theorem ixd_cons2 {α : Type} [Inhabited α] (a b : α) (r : List α) (i : Int) (h : 0 ≤ i) : ixd (a :: b :: r) (i + 2) = ixd r i := by
  have : (i + 2).toNat = i.toNat + 2 := by omega
  simp [ixd, this]
theorem upL_step : ∀ {l : List Hsh} {j : Nat}, 2 * j < l.length → upL (l.take (2 * j + 2)) = upL (l.take (2 * j)) ++ [bothH (ixd l ((2 * j : Nat) : Int)) (ixd l (min (((2 * j : Nat) : Int) + 1) ((l.length : Int) - 1)))]
  | [], j, h => by simp at h
  | [a], j, h => by
    obtain rfl : j = 0 := by simp at h; omega
    have e : min (((2 * 0 : Nat) : Int) + 1) (([a].length : Int) - 1) = 0 := by simp only [List.length_cons, List.length_nil]; omega
    rw [e]; simp [upL, ixd]
  | a :: b :: r, 0, h => by
    have e : min (((2 * 0 : Nat) : Int) + 1) (((a :: b :: r).length : Int) - 1) = 1 := by simp only [List.length_cons]; omega
    rw [e]; simp [upL, ixd]
  | a :: b :: r, j + 1, h => by
    have h2 : 2 * j < r.length := by simp only [List.length_cons] at h; omega
    have ih := upL_step h2
    have e1 : (a :: b :: r).take (2 * (j + 1) + 2) = a :: b :: r.take (2 * j + 2) := rfl
    have e2 : (a :: b :: r).take (2 * (j + 1)) = a :: b :: r.take (2 * j) := rfl
    rw [e1, e2]
    have e3 : ixd (a :: b :: r) ((2 * (j + 1) : Nat) : Int) = ixd r ((2 * j : Nat) : Int) := by
      rw [← ixd_cons2 a b r _ (by omega)]; congr 1
    have e4 : ixd (a :: b :: r) (min (((2 * (j + 1) : Nat) : Int) + 1) (((a :: b :: r).length : Int) - 1)) = ixd r (min (((2 * j : Nat) : Int) + 1) ((r.length : Int) - 1)) := by
      rw [← ixd_cons2 a b r _ (by omega)]; congr 1; simp only [List.length_cons]; omega
    rw [e3, e4]
    simp only [upL, ih, List.cons_append]
/-- is the pair at a place sound? -/
def prS (l : List Hsh) (j : Nat) : Bool := decide (min (((2 * j : Nat) : Int) + 1) ((l.length : Int) - 1) = ((2 * j : Nat) : Int)) || decide (ixd l ((2 * j : Nat) : Int) ≠ ixd l (min (((2 * j : Nat) : Int) + 1) ((l.length : Int) - 1)))
theorem upS_step : ∀ {l : List Hsh} {j : Nat}, 2 * j < l.length → upS (l.take (2 * j + 2)) = (upS (l.take (2 * j)) && prS l j)
  | [], j, h => by simp at h
  | [a], j, h => by
    obtain rfl : j = 0 := by simp at h; omega
    have e : min (((2 * 0 : Nat) : Int) + 1) (([a].length : Int) - 1) = 0 := by simp only [List.length_cons, List.length_nil]; omega
    unfold prS
    rw [e]; simp [upS]
  | a :: b :: r, 0, h => by
    have e : min (((2 * 0 : Nat) : Int) + 1) (((a :: b :: r).length : Int) - 1) = 1 := by simp only [List.length_cons]; omega
    unfold prS
    rw [e]
    simp [upS, ixd]
  | a :: b :: r, j + 1, h => by
    have h2 : 2 * j < r.length := by simp only [List.length_cons] at h; omega
    have ih := upS_step h2
    have e1 : (a :: b :: r).take (2 * (j + 1) + 2) = a :: b :: r.take (2 * j + 2) := rfl
    have e2 : (a :: b :: r).take (2 * (j + 1)) = a :: b :: r.take (2 * j) := rfl
    rw [e1, e2]
    have e3 : ixd (a :: b :: r) ((2 * (j + 1) : Nat) : Int) = ixd r ((2 * j : Nat) : Int) := by
      rw [← ixd_cons2 a b r _ (by omega)]; congr 1
    have e5 : min (((2 * (j + 1) : Nat) : Int) + 1) (((a :: b :: r).length : Int) - 1) = min (((2 * j : Nat) : Int) + 1) ((r.length : Int) - 1) + 2 := by simp only [List.length_cons]; omega
    have e4 : ixd (a :: b :: r) (min (((2 * (j + 1) : Nat) : Int) + 1) (((a :: b :: r).length : Int) - 1)) = ixd r (min (((2 * j : Nat) : Int) + 1) ((r.length : Int) - 1)) := by
      rw [← ixd_cons2 a b r _ (by omega), e5]
    have e6 : prS (a :: b :: r) (j + 1) = prS r j := by
      unfold prS
      rw [e3, e4, e5]
      congr 1
      have : (min (((2 * j : Nat) : Int) + 1) ((r.length : Int) - 1) + 2 = ((2 * (j + 1) : Nat) : Int)) ↔ (min (((2 * j : Nat) : Int) + 1) ((r.length : Int) - 1) = ((2 * j : Nat) : Int)) := by omega
      exact decide_eq_decide.2 this
    simp only [upS, ih, e6, Bool.and_assoc]
/-- the root, by so many rows; is the list sound? -/
def rootA : Nat → List Hsh → Hsh × Bool
  | 0, _ => (zH, false)
  | n + 1, l => if l.length = 0 then (zH, false) else if l.length = 1 then (ixd l 0, true) else if upS l then rootA n (upL l) else (zH, false)
def rootF (l : List Hsh) : Hsh × Bool := rootA l.length l
/-- more rows change nothing -/
theorem rootA_more : ∀ {n m : Nat} {l : List Hsh}, l.length ≤ n → l.length ≤ m → rootA n l = rootA m l
  | 0, 0, _, _, _ => rfl
  | 0, m + 1, l, h, _ => by
    obtain rfl := List.eq_nil_of_length_eq_zero (by omega : l.length = 0)
    rfl
  | n + 1, 0, l, _, h => by
    obtain rfl := List.eq_nil_of_length_eq_zero (by omega : l.length = 0)
    rfl
  | n + 1, m + 1, l, h1, h2 => by
    unfold rootA
    split
    · rfl
    · split
      · rfl
      · split
        · have := upL_len l
          exact rootA_more (by omega) (by omega)
        · rfl
theorem rootF_0 {l : List Hsh} (h : l.length = 0) : rootF l = (zH, false) := by
  obtain rfl := List.eq_nil_of_length_eq_zero h; rfl
theorem rootF_1 {l : List Hsh} (h : l.length = 1) : rootF l = (ixd l 0, true) := by
  unfold rootF; rw [h]; unfold rootA; rw [if_neg (by omega), if_pos h]
theorem rootF_no {l : List Hsh} (h : 1 < l.length) (hs : upS l = false) : rootF l = (zH, false) := by
  unfold rootF
  obtain ⟨n, hn⟩ : ∃ n, l.length = n + 1 := ⟨l.length - 1, by omega⟩
  rw [hn]; unfold rootA
  rw [if_neg (by omega), if_neg (by omega), hs]; rfl
theorem rootF_up {l : List Hsh} (h : 1 < l.length) (hs : upS l = true) : rootF l = rootF (upL l) := by
  unfold rootF
  obtain ⟨n, hn⟩ : ∃ n, l.length = n + 1 := ⟨l.length - 1, by omega⟩
  have := upL_len l
  rw [hn]; conv => lhs; unfold rootA
  rw [if_neg (by omega), if_neg (by omega), if_pos hs]
  exact rootA_more (by omega) (by omega)
/-- all rows below the last one -/
def rowsA : Nat → List Hsh → List (List Hsh)
  | 0, l => [l]
  | n + 1, l => if l.length ≤ 1 then [l] else l :: rowsA n (upL l)
def rowsS : Nat → List Hsh → Bool
  | 0, _ => true
  | n + 1, l => if l.length ≤ 1 then true else upS l && rowsS n (upL l)
def lastR : Nat → List Hsh → List Hsh
  | 0, l => l
  | n + 1, l => if l.length ≤ 1 then l else lastR n (upL l)
theorem root_rows : ∀ {n : Nat} {l : List Hsh}, l.length ≤ n → 0 < l.length → rootA n l = if rowsS n l then (ixd (lastR n l) 0, true) else (zH, false)
  | 0, l, h, h0 => by omega
  | n + 1, l, h, h0 => by
    unfold rootA rowsS lastR
    have := upL_len l
    rw [if_neg (by omega)]
    by_cases h1 : l.length = 1
    · have h2 : l.length ≤ 1 := by omega
      simp only [if_pos h1, if_pos h2, if_true]
    · have h2 : ¬ l.length ≤ 1 := by omega
      simp only [if_neg h1, if_neg h2]
      cases hs : upS l
      · rfl
      · simp only [if_true, Bool.true_and]
        exact root_rows (by omega) (by omega)
end Go.Proofs.YtalainpmlonahaaDoor
