/-
  What a cache keeps: plain Lean.
-/
import Derived.Test.YtgbiohhpdokofaaCacheB
namespace Go.Proofs.Ytgbiohhpdokofaa

open Classical in
/-- one more, if its place is new -/
noncomputable def nubS (acc : List (List Value)) (x : List Value) : List (List Value) := if ∃ y ∈ acc, plc y = plc x then acc else acc ++ [x]
/-- the first ones of each place -/
noncomputable def nubP (l : List (List Value)) : List (List Value) := l.foldl nubS []
theorem nubP_snoc (l : List (List Value)) (x : List Value) : nubP (l ++ [x]) = nubS (nubP l) x := by simp [nubP]
theorem nubS_mem {acc : List (List Value)} {x : List Value} {p : Value} : (∃ y ∈ nubS acc x, plc y = p) ↔ (∃ y ∈ acc, plc y = p) ∨ plc x = p := by
  unfold nubS
  split
  · rename_i h
    constructor
    · exact .inl
    · rintro (h1 | h1)
      · exact h1
      · obtain ⟨y, h2, h3⟩ := h; exact ⟨y, h2, h3.trans h1⟩
  · simp only [List.mem_append, List.mem_singleton]
    constructor
    · rintro ⟨y, h1 | rfl, h2⟩
      · exact .inl ⟨y, h1, h2⟩
      · exact .inr h2
    · rintro (⟨y, h1, h2⟩ | h1)
      · exact ⟨y, .inl h1, h2⟩
      · exact ⟨x, .inr rfl, h1⟩
theorem nubP_mem {p : Value} (l : List (List Value)) : (∃ y ∈ nubP l, plc y = p) ↔ ∃ y ∈ l, plc y = p := by
  have key : ∀ (l acc : List (List Value)), (∃ y ∈ l.foldl nubS acc, plc y = p) ↔ (∃ y ∈ acc, plc y = p) ∨ ∃ y ∈ l, plc y = p := by
    intro l
    induction l with
    | nil => intro acc; simp
    | cons a l ih =>
      intro acc
      rw [List.foldl_cons, ih, nubS_mem]
      simp only [List.mem_cons, or_assoc]
      constructor
      · rintro (h | h | ⟨y, h1, h2⟩)
        · exact .inl h
        · exact .inr ⟨a, .inl rfl, h⟩
        · exact .inr ⟨y, .inr h1, h2⟩
      · rintro (h | ⟨y, rfl | h1, h2⟩)
        · exact .inl h
        · exact .inr (.inl h2)
        · exact .inr (.inr ⟨y, h1, h2⟩)
  have := key l []
  simpa [nubP] using this
theorem nubP_nodup (l : List (List Value)) : ((nubP l).map plc).Nodup := by
  have key : ∀ (l acc : List (List Value)), (acc.map plc).Nodup → ((l.foldl nubS acc).map plc).Nodup := by
    intro l
    induction l with
    | nil => intro acc h; exact h
    | cons a l ih =>
      intro acc h
      refine ih _ ?_
      unfold nubS
      split
      · exact h
      · rename_i h1
        rw [List.map_append, List.nodup_append]
        refine ⟨h, by simp, ?_⟩
        intro x hx y hy e
        simp at hy
        obtain ⟨z, hz, rfl⟩ := List.mem_map.1 hx
        exact h1 ⟨z, hz, by rw [e, hy]⟩
  exact key l [] (by simp)
theorem wout_append (l m : List (List Value)) (p : Value) : wout (l ++ m) p = wout l p ++ wout m p := by
  unfold wout; exact List.filter_append ..
theorem mem_wout {l : List (List Value)} {p : Value} {x : List Value} : x ∈ wout l p ↔ x ∈ l ∧ plc x ≠ p := by
  unfold wout; rw [List.mem_filter]; simp
theorem nub_cons (c : List Value) (l : List (List Value)) : nubP (c :: l) = c :: wout (nubP l) (plc c) := by
  have key : ∀ (l acc : List (List Value)), l.foldl nubS (c :: wout acc (plc c)) = c :: wout (l.foldl nubS acc) (plc c) := by
    intro l
    induction l with
    | nil => intro acc; rfl
    | cons a l ih =>
      intro acc
      rw [List.foldl_cons, List.foldl_cons, ← ih]
      congr 1
      by_cases hp : plc a = plc c
      · have e1 : nubS (c :: wout acc (plc c)) a = c :: wout acc (plc c) := by
          unfold nubS; rw [if_pos ⟨c, by simp, hp.symm⟩]
        have e2 : wout (nubS acc a) (plc c) = wout acc (plc c) := by
          unfold nubS
          split
          · rfl
          · rw [wout_append]
            have : wout [a] (plc c) = [] := by
              classical
              unfold wout; rw [List.filter_cons_of_neg (by simp [hp])]; rfl
            rw [this, List.append_nil]
        rw [e1, e2]
      · by_cases hm : ∃ y ∈ acc, plc y = plc a
        · have e1 : nubS (c :: wout acc (plc c)) a = c :: wout acc (plc c) := by
            unfold nubS
            obtain ⟨y, h1, h2⟩ := hm
            rw [if_pos ⟨y, List.mem_cons_of_mem _ (mem_wout.2 ⟨h1, by rw [h2]; exact hp⟩), h2⟩]
          have e2 : nubS acc a = acc := by unfold nubS; rw [if_pos hm]
          rw [e1, e2]
        · have e1 : nubS (c :: wout acc (plc c)) a = c :: wout acc (plc c) ++ [a] := by
            unfold nubS
            rw [if_neg]
            rintro ⟨y, h1, h2⟩
            rcases List.mem_cons.1 h1 with rfl | h1
            · exact hp h2.symm
            · exact hm ⟨y, (mem_wout.1 h1).1, h2⟩
          have e2 : nubS acc a = acc ++ [a] := by unfold nubS; rw [if_neg hm]
          have e3 : wout [a] (plc c) = [a] := wout_not (by simpa using hp)
          rw [e1, e2, wout_append, e3]; rfl
  have := key l []
  have e : nubS [] c = [c] := by simp [nubS]
  have e2 : wout [] (plc c) = ([] : List (List Value)) := rfl
  rw [e2] at this
  simp only [nubP, List.foldl_cons, e]
  exact this
theorem wout_lenge {l : List (List Value)} {p : Value} (hn : (l.map plc).Nodup) : l.length ≤ (wout l p).length + 1 := by
  classical
  induction l with
  | nil => simp
  | cons a l ih =>
    simp only [List.map_cons, List.nodup_cons] at hn
    by_cases h : plc a = p
    · have : wout l p = l := wout_not fun cs hc e => hn.1 (List.mem_map.2 ⟨cs, hc, by rw [e, h]⟩)
      have e : wout (a :: l) p = l := by
        have h0 : wout (a :: l) p = wout l p := by unfold wout; rw [List.filter_cons_of_neg (by simp [h])]
        rw [h0, this]
      rw [e]; simp
    · have e : wout (a :: l) p = a :: wout l p := by unfold wout; rw [List.filter_cons_of_pos (by simp [h])]
      rw [e]
      have := ih hn.2
      simp only [List.length_cons]; omega
theorem wout_take {l : List (List Value)} {p : Value} (hn : (l.map plc).Nodup) (n : Nat) : (wout (l.take (n + 1)) p).take n = (wout l p).take n := by
  by_cases hl : n + 1 ≤ l.length
  · have e : wout l p = wout (l.take (n + 1)) p ++ wout (l.drop (n + 1)) p := by rw [← wout_append, List.take_append_drop]
    have h1 := wout_lenge (l := l.take (n + 1)) (p := p) (hn.sublist ((List.take_sublist _ _).map _))
    rw [List.length_take, Nat.min_eq_left hl] at h1
    rw [e, List.take_append_of_le_length (by omega)]
  · have e : l.take (n + 1) = l := List.take_of_length_le (by omega)
    rw [e]
theorem putAll_nub (room : Nat) (ls : List (List Value)) : putAll room [] ls = (nubP ls.reverse).take room := by
  rw [← List.reverse_reverse ls]
  generalize ls.reverse = R
  rw [List.reverse_reverse]
  induction R with
  | nil => simp [putAll, nubP]
  | cons c R ih =>
    rw [List.reverse_cons, putAll_snoc, ih, nub_cons]
    unfold putS
    cases room with
    | zero => simp
    | succ n => rw [List.take_succ_cons, List.take_succ_cons, wout_take (nubP_nodup R)]
theorem nub_prefix (l m : List (List Value)) : ∃ t, nubP (l ++ m) = nubP l ++ t := by
  have key : ∀ (m acc : List (List Value)), ∃ t, m.foldl nubS acc = acc ++ t := by
    intro m
    induction m with
    | nil => intro acc; exact ⟨[], by simp⟩
    | cons a m ih =>
      intro acc
      obtain ⟨t, ht⟩ := ih (nubS acc a)
      rw [List.foldl_cons, ht]
      unfold nubS
      split
      · exact ⟨t, rfl⟩
      · exact ⟨a :: t, by simp⟩
  obtain ⟨t, ht⟩ := key m (nubP l)
  exact ⟨t, by simp only [nubP, List.foldl_append]; exact ht⟩
end Go.Proofs.Ytgbiohhpdokofaa
