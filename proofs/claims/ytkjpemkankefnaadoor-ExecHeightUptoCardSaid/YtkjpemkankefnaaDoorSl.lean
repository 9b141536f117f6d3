/-
  MEMORY OF THE CALL's OWN, PART BY PART: a list of assertions on parts of the heap that share no block. No program in sight.
-/
import Derived.Test.YtkjpemkankefnaaDoorSx
import Derived.Test.YtkjpemkankefnaaDoorDr
import Derived.Laws.CopyRow
import Derived.Laws.OwnMore
import Derived.Maps.AppendAt
namespace Go.Proofs.YtkjpemkankefnaaDoor
open Go.RowKit

abbrev Hp := Nat → Option Obj
abbrev Assn := Hp → Prop
def hdis (h1 h2 : Hp) : Prop := ∀ b, h1 b = none ∨ h2 b = none
def hun (h1 h2 : Hp) : Hp := fun b => (h1 b).or (h2 b)
def hone (g : Nat) (o : Obj) : Hp := fun b => if b = g then some o else none
def hemp : Hp := fun _ => none
def sepa (A B : Assn) : Assn := fun h => ∃ h1 h2, hdis h1 h2 ∧ h = hun h1 h2 ∧ A h1 ∧ B h2
def big : List Assn → Assn
  | [] => fun _ => True
  | A :: L => sepa A (big L)
def Sub (h : Hp) (w : World) : Prop := ∀ b o, h b = some o → w.heap[b]? = some o

theorem hun_comm {h1 h2 : Hp} (hd : hdis h1 h2) : hun h1 h2 = hun h2 h1 := by
  funext b
  unfold hun
  rcases hd b with h | h <;> rw [h] <;> cases h1 b <;> cases h2 b <;> simp_all
theorem hdis.symm {h1 h2 : Hp} (hd : hdis h1 h2) : hdis h2 h1 := fun b => (hd b).symm
theorem hun_assoc (h1 h2 h3 : Hp) : hun (hun h1 h2) h3 = hun h1 (hun h2 h3) := by
  funext b; unfold hun; cases h1 b <;> cases h2 b <;> cases h3 b <;> rfl
theorem hun_none {h1 h2 : Hp} {b : Nat} : hun h1 h2 b = none ↔ h1 b = none ∧ h2 b = none := by
  unfold hun; cases h1 b <;> cases h2 b <;> simp
theorem hdis_hun {h1 h2 h3 : Hp} : hdis (hun h1 h2) h3 ↔ hdis h1 h3 ∧ hdis h2 h3 := by
  constructor
  · intro h
    exact ⟨fun b => (h b).imp (fun e => (hun_none.1 e).1) id, fun b => (h b).imp (fun e => (hun_none.1 e).2) id⟩
  · rintro ⟨h1, h2⟩ b
    rcases h1 b with e1 | e1
    · rcases h2 b with e2 | e2
      · exact .inl (hun_none.2 ⟨e1, e2⟩)
      · exact .inr e2
    · exact .inr e1
theorem Sub.left {h1 h2 : Hp} {w : World} (h : Sub (hun h1 h2) w) : Sub h1 w := fun b o e => h b o (by unfold hun; rw [e]; rfl)
theorem Sub.right {h1 h2 : Hp} {w : World} (hd : hdis h1 h2) (h : Sub (hun h1 h2) w) : Sub h2 w := fun b o e => h b o (by
  unfold hun
  rcases hd b with e1 | e1
  · rw [e1, e]; rfl
  · rw [e1] at e; cases e)
theorem Sub.hun {h1 h2 : Hp} {w : World} (a : Sub h1 w) (b : Sub h2 w) : Sub (Go.Proofs.YtkjpemkankefnaaDoor.hun h1 h2) w := fun k o e => by
  unfold Go.Proofs.YtkjpemkankefnaaDoor.hun at e
  cases e1 : h1 k with
  | some o1 => rw [e1] at e; simp at e; subst e; exact a k o1 e1
  | none => rw [e1] at e; simp at e; exact b k o e
theorem sepa_swap {A B C : Assn} {h : Hp} (hh : sepa A (sepa B C) h) : sepa B (sepa A C) h := by
  obtain ⟨h1, h2, d, rfl, ha, h3, h4, d', rfl, hb, hc⟩ := hh
  have d1 := (hdis_hun.1 d.symm)
  refine ⟨h3, hun h1 h4, (hdis_hun.2 ⟨d1.1.symm, d'.symm⟩).symm, ?_, hb, h1, h4, d1.2.symm, rfl, ha, hc⟩
  rw [← hun_assoc, hun_comm d1.1.symm, hun_assoc]
/-- the i-th part to the front -/
theorem big_front : ∀ {L : List Assn} {i : Nat} {A : Assn} {h : Hp}, L[i]? = some A → big L h → sepa A (big (L.eraseIdx i)) h
  | [], i, A, h, hi, _ => by simp at hi
  | B :: L, 0, A, h, hi, hb => by simp at hi; subst hi; exact hb
  | B :: L, i + 1, A, h, hi, hb => by
    obtain ⟨h1, h2, d, e, hB, hL⟩ := hb
    exact sepa_swap ⟨h1, h2, d, e, hB, big_front (by simpa using hi) hL⟩
theorem big_append : ∀ {L M : List Assn} {h : Hp}, sepa (big L) (big M) h → big (L ++ M) h
  | [], M, h, hh => by
    obtain ⟨h1, h2, d, rfl, _, hM⟩ := hh
    exact big_weak d hM
  | A :: L, M, h, hh => by
    obtain ⟨h1, h2, d, rfl, ⟨h3, h4, d', rfl, hA, hL⟩, hM⟩ := hh
    obtain ⟨da, db⟩ := hdis_hun.1 d
    exact ⟨h3, hun h4 h2, (hdis_hun.2 ⟨d'.symm, da.symm⟩).symm, hun_assoc _ _ _, hA, big_append ⟨h4, h2, db, rfl, hL, hM⟩⟩
where
  /-- more heap does no harm -/
  big_weak : ∀ {M : List Assn} {h1 h2 : Hp}, hdis h1 h2 → big M h2 → big M (hun h1 h2)
  | [], _, _, _, _ => trivial
  | B :: M, h1, h2, d, hb => by
    obtain ⟨h3, h4, d', rfl, hB, hM⟩ := hb
    have d1 := hdis_hun.1 d.symm
    refine ⟨h3, hun h1 h4, (hdis_hun.2 ⟨d1.1.symm, d'.symm⟩).symm, ?_, hB, big_weak d1.2.symm hM⟩
    rw [← hun_assoc, hun_comm d1.1.symm, hun_assoc]

/-- Since world w0 nothing that was there has turned, but for the blocks of which X is true; L: what is known of these and of the new ones. -/
structure Tp (w0 w : World) : Prop where
  tape : w.tape = w0.tape
  drawn : w0.drawn ≤ w.drawn
theorem Tp.rfl {w : World} : Tp w w := ⟨_root_.rfl, Nat.le_refl _⟩
theorem Tp.trans {w0 w w' : World} (h' : Tp w w') (h : Tp w0 w) : Tp w0 w' := ⟨h'.tape.trans h.tape, Nat.le_trans h.drawn h'.drawn⟩
theorem Tp.of {w w' : World} (h : (w'.tape, w'.drawn) = (w.tape, w.drawn)) : Tp w w' := by
  simp only [Prod.mk.injEq] at h
  exact ⟨h.1, Nat.le_of_eq h.2.symm⟩
structure St (w0 : World) (X : Nat → Prop) (L : List Assn) (w : World) : Prop where
  os : w.os = w0.os
  tape : Tp w0 w
  output : w.output = w0.output
  size : w0.heap.size ≤ w.heap.size
  keep : ∀ b, b < w0.heap.size → ¬ X b → w.heap[b]? = w0.heap[b]?
  res : ∃ h, big L h ∧ Sub h w ∧ ∀ b, h b ≠ none → X b ∨ w0.heap.size ≤ b
abbrev no : Nat → Prop := fun _ => False

section
variable {w0 w w' : World} {X : Nat → Prop} {L : List Assn} {A : Assn}
theorem St.start (w : World) : St w no [] w := ⟨rfl, Tp.rfl, rfl, Nat.le_refl _, fun _ _ _ => rfl, ⟨hemp, trivial, fun _ _ h => by simp [hemp] at h, fun b h => absurd rfl h⟩⟩
theorem St.drew (h : St w0 X L w) : St w0 X L w.drew := ⟨h.os, ⟨h.tape.tape, Nat.le_succ_of_le h.tape.drawn⟩, h.output, h.size, h.keep, h.res⟩
theorem St.get (h : St w0 X L w) {i : Nat} (hi : L[i]? = some A) : ∃ k, A k ∧ Sub k w := by
  obtain ⟨hp, hb, hs, _⟩ := h.res
  obtain ⟨h1, h2, d, rfl, ha, _⟩ := big_front hi hb
  exact ⟨h1, ha, hs.left⟩
theorem Sub.lt {k : Hp} (h : Sub k w) {b : Nat} (hb : k b ≠ none) : b < w.heap.size := by
  cases e : k b with
  | none => exact absurd e hb
  | some o =>
    have := h b o e
    rcases Nat.lt_or_ge b w.heap.size with hlt | hge
    · exact hlt
    · rw [Array.getElem?_eq_none hge] at this; cases this
/-- a step that turns the i-th part, and makes new blocks -/
theorem St.stepT (h : St w0 X L w) {i : Nat} {A' : Assn} (hi : L[i]? = some A) (ho : w'.os = w.os) (ht : Tp w w') (hu : w'.output = w.output) (hz : w.heap.size ≤ w'.heap.size)
    (hw : ∀ k, A k → Sub k w → ∃ k', A' k' ∧ Sub k' w' ∧ (∀ b, k' b ≠ none → k b ≠ none ∨ w.heap.size ≤ b) ∧ ∀ b, b < w.heap.size → k b = none → w'.heap[b]? = w.heap[b]?) :
    St w0 X (A' :: L.eraseIdx i) w' := by
  obtain ⟨hp, hb, hs, hX⟩ := h.res
  obtain ⟨h1, h2, d, rfl, ha, hL⟩ := big_front hi hb
  obtain ⟨k', hA', hs', hdom, hkeep⟩ := hw h1 ha hs.left
  have hs2 := hs.right d
  have hX1 : ∀ b, h1 b ≠ none → X b ∨ w0.heap.size ≤ b := fun b hb => hX b (fun e => hb (hun_none.1 e).1)
  have hX2 : ∀ b, h2 b ≠ none → X b ∨ w0.heap.size ≤ b := fun b hb => hX b (fun e => hb (hun_none.1 e).2)
  have hdk : hdis k' h2 := fun b => by
    cases e : h2 b with
    | none => exact .inr rfl
    | some o =>
      left
      cases e' : k' b with
      | none => rfl
      | some o' =>
        exfalso
        rcases hdom b (by rw [e']; simp) with h3 | h3
        · rcases d b with h4 | h4
          · exact h3 h4
          · rw [h4] at e; cases e
        · have := Sub.lt hs2 (b := b) (by rw [e]; simp)
          omega
  refine ⟨ho.trans h.os, ht.trans h.tape, hu.trans h.output, Nat.le_trans h.size hz, fun b hb' hx => ?_, hun k' h2, ⟨k', h2, hdk, rfl, hA', hL⟩, ?_, fun b hb => ?_⟩
  · have : h1 b = none := by
      cases e : h1 b with
      | none => rfl
      | some o => rcases hX1 b (by rw [e]; simp) with h3 | h3; exact absurd h3 hx; omega
    exact (hkeep b (Nat.lt_of_lt_of_le hb' h.size) this).trans (h.keep b hb' hx)
  · refine hs'.hun fun b o e => ?_
    have hlt := Sub.lt hs2 (b := b) (by rw [e]; simp)
    have : h1 b = none := by
      rcases d b with h3 | h3
      · exact h3
      · rw [h3] at e; cases e
    exact (hkeep b hlt this).trans (hs2 b o e)
  · by_cases e : k' b = none
    · exact hX2 b (fun e2 => hb (hun_none.2 ⟨e, e2⟩))
    · rcases hdom b e with h3 | h3
      · exact hX1 b h3
      · exact .inr (Nat.le_trans h.size h3)
theorem St.step (h : St w0 X L w) {i : Nat} {A' : Assn} (hi : L[i]? = some A) (ho : w'.os = w.os) (ht : (w'.tape, w'.drawn) = (w.tape, w.drawn)) (hu : w'.output = w.output) (hz : w.heap.size ≤ w'.heap.size)
    (hw : ∀ k, A k → Sub k w → ∃ k', A' k' ∧ Sub k' w' ∧ (∀ b, k' b ≠ none → k b ≠ none ∨ w.heap.size ≤ b) ∧ ∀ b, b < w.heap.size → k b = none → w'.heap[b]? = w.heap[b]?) :
    St w0 X (A' :: L.eraseIdx i) w' := h.stepT hi ho (Tp.of ht) hu hz hw
/-- a step that makes new blocks alone -/
theorem St.grow (h : St w0 X L w) {A' : Assn} (ho : w'.os = w.os) (ht : (w'.tape, w'.drawn) = (w.tape, w.drawn)) (hu : w'.output = w.output) (hz : w.heap.size ≤ w'.heap.size)
    (hkeep : ∀ b, b < w.heap.size → w'.heap[b]? = w.heap[b]?) (hA : ∃ k', A' k' ∧ Sub k' w' ∧ ∀ b, k' b ≠ none → w.heap.size ≤ b) : St w0 X (A' :: L) w' := by
  obtain ⟨hp, hb, hs, hX⟩ := h.res
  obtain ⟨k', hA', hs', hdom⟩ := hA
  refine ⟨ho.trans h.os, (Tp.of ht).trans h.tape, hu.trans h.output, Nat.le_trans h.size hz, fun b hb' hx => (hkeep b (Nat.lt_of_lt_of_le hb' h.size)).trans (h.keep b hb' hx), hun k' hp, ⟨k', hp, fun b => ?_, rfl, hA', hb⟩, ?_, fun b hb => ?_⟩
  · by_cases e : hp b = none
    · exact .inr e
    · left
      cases e' : k' b with
      | none => rfl
      | some o => have h1 := hdom b (by rw [e']; simp); have h2 := Sub.lt hs e; omega
  · exact hs'.hun fun b o e => (hkeep b (Sub.lt hs (b := b) (by rw [e]; simp))).trans (hs b o e)
  · by_cases e : k' b = none
    · exact hX b (fun e2 => hb (hun_none.2 ⟨e, e2⟩))
    · exact .inr (Nat.le_trans h.size (hdom b e))
/-- behind a call that turned nothing that was there -/
theorem St.call {M : List Assn} (h : St w0 X L w) (h' : St w no M w') : St w0 X (M ++ L) w' := by
  obtain ⟨hp, hb, hs, hX⟩ := h.res
  obtain ⟨k, kb, ks, kX⟩ := h'.res
  have hdom : ∀ b, k b ≠ none → w.heap.size ≤ b := fun b hb => (kX b hb).resolve_left id
  refine ⟨h'.os.trans h.os, h'.tape.trans h.tape, h'.output.trans h.output, Nat.le_trans h.size h'.size, fun b hb' hx => (h'.keep b (Nat.lt_of_lt_of_le hb' h.size) id).trans (h.keep b hb' hx), hun k hp,
    big_append ⟨k, hp, fun b => ?_, rfl, kb, hb⟩, ?_, fun b hb => ?_⟩
  · by_cases e : hp b = none
    · exact .inr e
    · left
      cases e' : k b with
      | none => rfl
      | some o => have h1 := hdom b (by rw [e']; simp); have h2 := Sub.lt hs e; omega
  · exact ks.hun fun b o e => (h'.keep b (Sub.lt hs (b := b) (by rw [e]; simp)) id).trans (hs b o e)
  · by_cases e : k b = none
    · exact hX b (fun e2 => hb (hun_none.2 ⟨e, e2⟩))
    · exact .inr (Nat.le_trans h.size (hdom b e))
/-- behind a call that turned the i-th part alone: Y, the blocks that it may turn, lie in it -/
theorem St.callX {M : List Assn} {Y : Nat → Prop} (h : St w0 X L w) {i : Nat} (hi : L[i]? = some A) (hY : ∀ k, A k → ∀ b, Y b → k b ≠ none) (h' : St w Y M w') : St w0 X (M ++ L.eraseIdx i) w' := by
  obtain ⟨hp, hb, hs, hX⟩ := h.res
  obtain ⟨h1, h2, d, rfl, ha, hL⟩ := big_front hi hb
  obtain ⟨k, kb, ks, kX⟩ := h'.res
  have hs2 := hs.right d
  have hYn : ∀ b, h2 b ≠ none → ¬ Y b := fun b hb hy => by
    rcases d b with e | e
    · exact hY h1 ha b hy e
    · exact hb e
  refine ⟨h'.os.trans h.os, h'.tape.trans h.tape, h'.output.trans h.output, Nat.le_trans h.size h'.size, fun b hb' hx => ?_, hun k h2,
    big_append ⟨k, h2, fun b => ?_, rfl, kb, hL⟩, ?_, fun b hb => ?_⟩
  · refine (h'.keep b (Nat.lt_of_lt_of_le hb' h.size) fun hy => ?_).trans (h.keep b hb' hx)
    rcases hX b (fun e => hY h1 ha b hy (hun_none.1 e).1) with h3 | h3
    · exact hx h3
    · omega
  · by_cases e : h2 b = none
    · exact .inr e
    · left
      cases e' : k b with
      | none => rfl
      | some o =>
        rcases kX b (by rw [e']; simp) with h3 | h3
        · exact absurd h3 (hYn b e)
        · have := Sub.lt hs2 e; omega
  · exact ks.hun fun b o e => (h'.keep b (Sub.lt hs2 (b := b) (by rw [e]; simp)) (hYn b (by rw [e]; simp))).trans (hs2 b o e)
  · by_cases e : k b = none
    · exact hX b (fun e2 => hb (hun_none.2 ⟨e, (hun_none.1 e2).2⟩))
    · rcases kX b e with h3 | h3
      · exact hX b (fun e2 => hY h1 ha b h3 (hun_none.1 e2).1)
      · exact .inr (Nat.le_trans h.size h3)
end
end Go.Proofs.YtkjpemkankefnaaDoor
