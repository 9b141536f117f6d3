/-
  THE SECOND ENGINE, seventh part: memory that is lent to a call; lots of parts. No program in sight.
-/
import Derived.Test.YtkjpemkankefnaaDoorNf
set_option linter.unusedVariables false
namespace Go.Proofs.YtkjpemkankefnaaDoor
open Go.RowKit

/-- L falls into Lin and the rest -/
class Spl (L Lin : List Assn) (rest : outParam (List Assn)) : Prop where
  get : ∀ h, big L h → ∃ h1 h2, hdis h1 h2 ∧ h = hun h1 h2 ∧ big Lin h1 ∧ big rest h2
theorem hun_emp (h : Hp) : hun hemp h = h := by funext b; simp [hun, hemp]
instance Spl.nil {L : List Assn} : Spl L [] L := ⟨fun h hb => ⟨hemp, h, fun _ => .inl rfl, (hun_emp h).symm, trivial, hb⟩⟩
instance Spl.cons {L L1 Lin rest : List Assn} {A : Assn} [hp : Pk L A L1] [hs : Spl L1 Lin rest] : Spl L (A :: Lin) rest := ⟨fun h hb => by
  obtain ⟨i, hi, rfl⟩ := hp.get
  obtain ⟨hA, h', d, rfl, a, b⟩ := big_front hi hb
  obtain ⟨h1, h2, d', rfl, c, e⟩ := hs.get h' b
  have d1 := hdis_hun.1 d.symm
  exact ⟨hun hA h1, h2, hdis_hun.2 ⟨d1.2.symm, d'⟩, (hun_assoc _ _ _).symm, ⟨hA, h1, d1.1.symm, rfl, a, c⟩, e⟩⟩
theorem St.lendS {w0 w : World} {X : Nat → Prop} {L Lin rest : List Assn} (hst : St w0 X L w) (hs : Spl L Lin rest) : ∃ Y : Nat → Prop, St w Y Lin w ∧ ∀ L' w', St w Y L' w' → St w0 X (L' ++ rest) w' := by
  obtain ⟨hp, hb, hsub, hX⟩ := hst.res
  obtain ⟨h1, h2, d, rfl, ha, hL⟩ := hs.get hp hb
  have hs2 := hsub.right d
  refine ⟨fun b => h1 b ≠ none, ⟨rfl, Tp.rfl, rfl, Nat.le_refl _, fun _ _ _ => rfl, h1, ha, hsub.left, fun b hb => .inl hb⟩, fun L' w' h' => ?_⟩
  obtain ⟨k, kb, ks, kX⟩ := h'.res
  have hYn : ∀ b, h2 b ≠ none → ¬ (h1 b ≠ none) := fun b hb hy => by
    rcases d b with e | e
    · exact hy e
    · exact hb e
  refine ⟨h'.os.trans hst.os, h'.tape.trans hst.tape, h'.output.trans hst.output, Nat.le_trans hst.size h'.size, fun b hb' hx => ?_, hun k h2, big_append ⟨k, h2, fun b => ?_, rfl, kb, hL⟩, ?_, fun b hb => ?_⟩
  · refine (h'.keep b (Nat.lt_of_lt_of_le hb' hst.size) fun hy => ?_).trans (hst.keep b hb' hx)
    rcases hX b (fun e => hy (hun_none.1 e).1) with h3 | h3
    · exact hx h3
    · omega
  · by_cases e : h2 b = none
    · exact .inr e
    · left
      cases e' : k b with
      | none => rfl
      | some o =>
        rcases kX b (by rw [e']; simp) with h3 | h3
        · exact absurd h3 (hYn b e)
        · have := Sub.lt hs2 e; omega
  · exact ks.hun fun b o e => (h'.keep b (Sub.lt hs2 (b := b) (by rw [e]; simp)) (hYn b (by rw [e]; simp))).trans (hs2 b o e)
  · by_cases e : k b = none
    · exact hX b (fun e2 => hb (hun_none.2 ⟨e, (hun_none.1 e2).2⟩))
    · rcases kX b e with h3 | h3
      · exact hX b (fun e2 => h3 (hun_none.1 e2).1)
      · exact .inr (Nat.le_trans hst.size h3)
/-- a call that is lent Lin -/
theorem ctrX {P : Program} {f : FuncId} {vs : List Value} {w0 : World} {X : Nat → Prop} {L Lin rest : List Assn} {pre : Prop} {ρ : Type} {val : ρ → Value} {M : ρ → List Assn} {φ : ρ → Prop} (hs : Spl L Lin rest) (ok : callB P f = true)
    (h : pre → ∀ w Y, St w Y Lin w → (∀ L' w', St w Y L' w' → St w0 X (L' ++ rest) w') → Ct P f vs w Y val M φ) : Ctr P f vs w0 X L pre val (fun r => M r ++ rest) φ :=
  ⟨ok, fun hp w hw => by
    obtain ⟨Y, h1, h2⟩ := hw.lendS hs
    exact (h hp w Y h1 h2).mono fun e w' ⟨r, he, hr, hφ⟩ => ⟨r, he, h2 _ _ hr, hφ⟩⟩
/-- what can be read whatever else is known can be read within a call that is lent something -/
theorem Rw.lent {w0 w : World} {X Y : Nat → Prop} {rest : List Assn} {v : Value} {G : Type} {R : Rep G} {gs : List G} (hr : ∀ L, Rw w0 X L v R gs) (h : ∀ L' w', St w Y L' w' → St w0 X (L' ++ rest) w') (L : List Assn) : Rw w Y L v R gs := ⟨fun w' hw' => (hr _).get w' (h _ _ hw')⟩
/-! lots -/
structure lot (l : List Assn) (h : Hp) : Prop where
  is : big l h
class FLot (L : List Assn) (l : List Assn) : Prop where
  get : lot l ∈ L
instance FLot.hd {L l : List Assn} : FLot (lot l :: L) l := ⟨by simp⟩
instance FLot.tl {L l : List Assn} {B : Assn} [h : FLot L l] : FLot (B :: L) l := ⟨List.mem_cons_of_mem _ h.get⟩
theorem big_mem : ∀ {l : List Assn} {h : Hp} {A : Assn}, big l h → A ∈ l → ∃ k, A k ∧ ∀ b o, k b = some o → h b = some o
  | [], _, _, _, hm => by cases hm
  | B :: l, h, A, ⟨h1, h2, d, e, hB, hl⟩, hm => by
    subst e
    rcases List.mem_cons.1 hm with rfl | hm
    · exact ⟨h1, hB, fun b o hb => by simp [hun, hb]⟩
    · obtain ⟨k, hk, hs⟩ := big_mem hl hm
      refine ⟨k, hk, fun b o hb => ?_⟩
      have := hs b o hb
      rcases d b with e1 | e1
      · simp [hun, e1, this]
      · rw [e1] at this; cases this
theorem Slr.of_lot {w0 w : World} {X : Nat → Prop} {L l : List Assn} {G : Type} {e : TypeId} {R : Rep G} {s : Sv} {n : Nat} {gs : List G} (h : FLot L l) (hm : rw_ e R s n gs ∈ l) (hw : St w0 X L w) : Slr w R (sl s n) gs := by
  obtain ⟨k, hk, hs⟩ := hw.getM h.get
  obtain ⟨k', hk0, hsub⟩ := big_mem hk.is hm
  have hl := hk0.len
  have hk' := hk0.is
  subst hl
  have hs' : Sub k' w := fun b o hb => hs b o (hsub b o hb)
  have h2 : St w (fun b => k' b ≠ none) [rowA e R.sz (sl s gs.length) gs.length (R.all gs)] w := ⟨rfl, Tp.rfl, rfl, Nat.le_refl _, fun _ _ _ => rfl, k', ⟨k', hemp, fun b => .inr rfl, by funext b; simp [hun, hemp], hk', trivial⟩, hs', fun b hb => .inl hb⟩
  exact h2.row (i := 0) rfl
section
variable {L L' L'' M : List Assn} {l : List Assn} {A : Assn}
theorem elot0 (k : Ent L M) : Ent L (lot [] :: M) := ⟨fun w0 X w h => by
  obtain ⟨hp, hb, hs, hX⟩ := (k.go _ _ _ h).res
  exact ⟨h.os, h.tape, h.output, h.size, h.keep, hp, ⟨hemp, hp, fun _ => .inl rfl, (hun_emp hp).symm, ⟨trivial⟩, hb⟩, hs, hX⟩⟩
theorem elot [h : FLot L l] [h' : Pk L (lot l) L'] (k : Ent L' M) : Ent L (lot l :: M) := Ent.cons (h' := k)
/-- one more in the lot -/
theorem elot1 [h : FLot L l] [h' : Pk L (lot l) L'] [h'' : Pk L' A L''] (k : Ent L'' M) : Ent L (lot (l ++ [A]) :: M) := ⟨fun w0 X w hs => by
  have e1 : Ent L (A :: lot l :: L'') := ⟨fun w0 X w hs => by
    obtain ⟨i, hi, rfl⟩ := h'.get
    have s1 := hs.front' hi
    obtain ⟨j, hj, rfl⟩ := h''.get
    have s2 : St w0 X (A :: (lot l :: L.eraseIdx i).eraseIdx (j + 1)) w := s1.front' (i := j + 1) (by simpa using hj)
    simpa using s2⟩
  have s := e1.go _ _ _ hs
  obtain ⟨hp, ⟨hA, h1, d1, rfl, a, h2, h3, d2, rfl, ⟨b⟩, c⟩, hsub, hX⟩ := s.res
  have d12 := (hdis_hun.1 d1.symm).1
  have hb : big (l ++ [A]) (hun hA h2) := by
    rw [hun_comm d12.symm]
    exact big_append ⟨h2, hA, d12, rfl, b, hA, hemp, fun b => .inr rfl, by funext b; simp [hun, hemp], a, trivial⟩
  have s3 : St w0 X (lot (l ++ [A]) :: L'') w := ⟨s.os, s.tape, s.output, s.size, s.keep, hun hA (hun h2 h3), ⟨hun hA h2, h3, hdis_hun.2 ⟨(hdis_hun.1 d1.symm).2.symm, d2⟩, (hun_assoc _ _ _).symm, ⟨hb⟩, c⟩, hsub, hX⟩
  exact St.cons_mono k.go s3⟩
end
end Go.Proofs.YtkjpemkankefnaaDoor
