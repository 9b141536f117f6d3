/-
  Scripts that run: the machine, the document's answer; plain laws. No program in sight.
-/
import Derived.Test.YtkjpemkankefnaaDoorEf
set_option linter.all false
set_option maxRecDepth 100000
set_option maxHeartbeats 4000000
namespace Go.Proofs.YtkjpemkankefnaaDoor
open Go.RowKit

/-! which parts belong together: a list of what is open, each with: did its other part come? -/
def scan : List Int → List Bool → Option (List Bool)
  | [], o => some o
  | c :: r, o => if c = 2 then scan r (false :: o) else if c = 3 then (match o with | false :: o' => scan r (true :: o') | _ => none) else if c = 4 then (match o with | _ :: o' => scan r o' | [] => none) else scan r o
def soundB (l : List Int) : Bool := decide (scan l [] = some [])
/-- where a part ends, from place i on; none: something within it does not end -/
def pS : List Int → List Bool → Nat → Option Nat
  | [], o, i => if o = [] then some i else none
  | c :: r, o, i => if c = 2 then pS r (false :: o) (i + 1) else if c = 3 then (match o with | [] => some i | false :: o' => pS r (true :: o') (i + 1) | true :: _ => none) else if c = 4 then (match o with | [] => some i | _ :: o' => pS r o' (i + 1)) else pS r o (i + 1)
section
variable {c : Int} {r : List Int} {o : List Bool} {i : Nat} {x : Bool}
theorem pS_if (h : c = 2) : pS (c :: r) o i = pS r (false :: o) (i + 1) := by subst h; simp [pS]
theorem pS_e0 (h : c = 3) : pS (c :: r) [] i = some i := by subst h; simp [pS]
theorem pS_e1 (h : c = 3) : pS (c :: r) (false :: o) i = pS r (true :: o) (i + 1) := by subst h; simp [pS]
theorem pS_e2 (h : c = 3) : pS (c :: r) (true :: o) i = none := by subst h; simp [pS]
theorem pS_n0 (h : c = 4) : pS (c :: r) [] i = some i := by subst h; simp [pS]
theorem pS_n1 (h : c = 4) : pS (c :: r) (x :: o) i = pS r o (i + 1) := by subst h; simp [pS]
theorem pS_o (h2 : c ≠ 2) (h3 : c ≠ 3) (h4 : c ≠ 4) : pS (c :: r) o i = pS r o (i + 1) := by simp [pS, h2, h3, h4]
theorem sc_if (h : c = 2) : scan (c :: r) o = scan r (false :: o) := by subst h; simp [scan]
theorem sc_e0 (h : c = 3) : scan (c :: r) [] = none := by subst h; simp [scan]
theorem sc_e1 (h : c = 3) : scan (c :: r) (false :: o) = scan r (true :: o) := by subst h; simp [scan]
theorem sc_e2 (h : c = 3) : scan (c :: r) (true :: o) = none := by subst h; simp [scan]
theorem sc_n0 (h : c = 4) : scan (c :: r) [] = none := by subst h; simp [scan]
theorem sc_n1 (h : c = 4) : scan (c :: r) (x :: o) = scan r o := by subst h; simp [scan]
theorem sc_o (h2 : c ≠ 2) (h3 : c ≠ 3) (h4 : c ≠ 4) : scan (c :: r) o = scan r o := by simp [scan, h2, h3, h4]
end
theorem pS_le : ∀ {l : List Int} {o : List Bool} {i n : Nat}, pS l o i = some n → i ≤ n ∧ n ≤ i + l.length
  | [], o, i, n, h => by
    unfold pS at h; split at h
    · cases h; simp
    · cases h
  | c :: r, o, i, n, h => by
    unfold pS at h
    rw [List.length_cons]
    split at h
    · have := pS_le h; omega
    · split at h
      · split at h
        · cases h; omega
        · have := pS_le h; omega
        · cases h
      · split at h
        · split at h
          · cases h; omega
          · have := pS_le h; omega
        · have := pS_le h; omega
/-- what stands at a part's end -/
theorem pS_end : ∀ {l : List Int} {o : List Bool} {i n : Nat}, pS l o i = some n → n < i + l.length → l[n - i]? = some 3 ∨ l[n - i]? = some 4
  | [], o, i, n, h, h2 => by have := pS_le h; simp at h2; omega
  | c :: r, o, i, n, h, h2 => by
    unfold pS at h
    rw [List.length_cons] at h2
    have up : ∀ {o' : List Bool}, pS r o' (i + 1) = some n → (c :: r)[n - i]? = some 3 ∨ (c :: r)[n - i]? = some 4 := fun {o'} h => by
      have h3 := pS_le h
      have h4 := pS_end h (by omega)
      rw [show n - i = (n - (i + 1)) + 1 by omega, List.getElem?_cons_succ]; exact h4
    split at h
    · exact up h
    · split at h
      · split at h
        · cases h; rename_i h3 _; left; simp [h3]
        · exact up h
        · cases h
      · split at h
        · split at h
          · cases h; rename_i h3 _; right; simp [h3]
          · exact up h
        · exact up h
/-- one more open below: the part's end is met first -/
def thenP (l : List Int) (i : Nat) (o : List Bool) : Option Nat → Option Nat
  | none => none
  | some n => pS (l.drop (n - i)) o n
theorem thenP_up {c : Int} {r : List Int} {i : Nat} {o : List Bool} {p : Option Nat} (h : ∀ n, p = some n → i + 1 ≤ n) : thenP r (i + 1) o p = thenP (c :: r) i o p := by
  cases p with
  | none => rfl
  | some n =>
    have := h n rfl
    simp only [thenP]
    rw [show n - i = (n - (i + 1)) + 1 by omega, List.drop_succ_cons]
theorem pS_app : ∀ (l : List Int) (s : List Bool) (b : Bool) (o : List Bool) (i : Nat), pS l (s ++ b :: o) i = thenP l i (b :: o) (pS l s i)
  | [], s, b, o, i => by
    unfold pS
    rw [if_neg (by simp)]
    by_cases h : s = []
    · subst h; rw [if_pos rfl]; simp [thenP, pS]
    · rw [if_neg h]; rfl
  | c :: r, s, b, o, i => by
    have up : ∀ (s' : List Bool), pS r (s' ++ b :: o) (i + 1) = thenP (c :: r) i (b :: o) (pS r s' (i + 1)) := fun s' => by
      rw [pS_app r s' b o (i + 1)]
      exact thenP_up fun n h => (pS_le h).1
    have e0 : thenP (c :: r) i (b :: o) (some i) = pS (c :: r) (b :: o) i := by simp [thenP]
    by_cases h2 : c = 2
    · rw [pS_if h2, pS_if h2, ← List.cons_append]; exact up _
    · by_cases h3 : c = 3
      · cases s with
        | nil => rw [pS_e0 h3, e0]; rfl
        | cons x s' =>
          cases x with
          | false => rw [List.cons_append, pS_e1 h3, pS_e1 h3, ← List.cons_append]; exact up _
          | true => rw [List.cons_append, pS_e2 h3, pS_e2 h3]; rfl
      · by_cases h4 : c = 4
        · cases s with
          | nil => rw [pS_n0 h4, e0]; rfl
          | cons x s' => rw [List.cons_append, pS_n1 h4, pS_n1 h4]; exact up _
        · rw [pS_o h2 h3 h4, pS_o h2 h3 h4]; exact up _
/-- what scanning makes of a part -/
def thenS (l : List Int) (i : Nat) (o : List Bool) (z : Option (List Bool)) : Option Nat → Prop
  | none => z ≠ some []
  | some n => z = scan (l.drop (n - i)) o
theorem thenS_up {c : Int} {r : List Int} {i : Nat} {o : List Bool} {z : Option (List Bool)} {p : Option Nat} (h : ∀ n, p = some n → i + 1 ≤ n) (hs : thenS r (i + 1) o z p) : thenS (c :: r) i o z p := by
  cases p with
  | none => exact hs
  | some n =>
    have := h n rfl
    simp only [thenS] at hs ⊢
    rw [hs, show n - i = (n - (i + 1)) + 1 by omega, List.drop_succ_cons]
theorem scan_pS : ∀ (l : List Int) (s o : List Bool) (i : Nat), thenS l i o (scan l (s ++ o)) (pS l s i)
  | [], s, o, i => by
    unfold pS
    by_cases h : s = []
    · subst h; rw [if_pos rfl]; simp [thenS, scan]
    · rw [if_neg h]; simp only [thenS, scan]
      intro e; have := Option.some.inj e; simp at this; exact h this.1
  | c :: r, s, o, i => by
    have up : ∀ (s' : List Bool), thenS (c :: r) i o (scan r (s' ++ o)) (pS r s' (i + 1)) := fun s' => thenS_up (fun n h => (pS_le h).1) (scan_pS r s' o (i + 1))
    have e0 : thenS (c :: r) i o (scan (c :: r) o) (some i) := by simp [thenS]
    by_cases h2 : c = 2
    · rw [pS_if h2, sc_if h2, ← List.cons_append]; exact up _
    · by_cases h3 : c = 3
      · cases s with
        | nil => rw [pS_e0 h3]; exact e0
        | cons x s' =>
          cases x with
          | false => rw [List.cons_append, pS_e1 h3, sc_e1 h3, ← List.cons_append]; exact up _
          | true => rw [List.cons_append, pS_e2 h3, sc_e2 h3]; simp [thenS]
      · by_cases h4 : c = 4
        · cases s with
          | nil => rw [pS_n0 h4]; exact e0
          | cons x s' => rw [List.cons_append, pS_n1 h4, sc_n1 h4]; exact up _
        · rw [pS_o h2 h3 h4, sc_o h2 h3 h4]; exact up _
/-- the document's Sound -/
theorem sound_pS (l : List Int) : soundB l = decide (pS l [] 0 = some l.length) := by
  unfold soundB
  rw [decide_eq_decide]
  have h := scan_pS l [] [] 0
  simp only [List.append_nil] at h
  cases hp : pS l [] 0 with
  | none => rw [hp] at h; simp only [thenS] at h; simp [h]
  | some n =>
    rw [hp] at h; simp only [thenS, Nat.sub_zero] at h
    have hl := pS_le hp
    by_cases hn : n = l.length
    · subst hn; rw [h, List.drop_length]; simp [scan]
    · have he := pS_end hp (by omega)
      rw [Nat.sub_zero] at he
      have hd : l.drop n = l[n]'(by omega) :: l.drop (n + 1) := List.drop_eq_getElem_cons (by omega)
      rw [List.getElem?_eq_getElem (by omega)] at he
      rw [h, hd]
      rcases he with he | he
      · rw [sc_e0 (Option.some.inj he)]; simp [hn]
      · rw [sc_n0 (Option.some.inj he)]; simp [hn]
end Go.Proofs.YtkjpemkankefnaaDoor
