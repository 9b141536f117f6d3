/-
  THE SECOND ENGINE, first part: cells in segments, what is known of memory (classes), the parts of the heap. No program in sight.
-/
import Derived.Test.YtkjpemkankefnaaDoorBuild
import Derived.Test.YtkjpemkankefnaaDoorDraw
import Derived.Test.YtkjpemkankefnaaDoorHeap
namespace Go.Proofs.YtkjpemkankefnaaDoor
open Go.RowKit

/-! cells in segments: a segment's length is a numeral -/
inductive Cs where
  | one (v : Value)
  | blk (m : Nat) (cs : List Value)
def Cs.cells : Cs → List Value
  | .one v => [v]
  | .blk _ cs => cs
def Cs.len : Cs → Nat
  | .one _ => 1
  | .blk m _ => m
def flat : List Cs → List Value
  | [] => []
  | s :: r => s.cells ++ flat r
def lenS : List Cs → Nat
  | [] => 0
  | s :: r => s.len + lenS r
def okS : List Cs → Prop
  | [] => True
  | .one _ :: r => okS r
  | .blk m cs :: r => cs.length = m ∧ okS r
theorem okS_cons {s : Cs} {r : List Cs} : okS (s :: r) ↔ s.cells.length = s.len ∧ okS r := by cases s <;> simp [okS, Cs.cells, Cs.len]
theorem flat_len : ∀ {l : List Cs}, okS l → (flat l).length = lenS l
  | [], _ => rfl
  | s :: r, h => by
    obtain ⟨h1, h2⟩ := okS_cons.1 h
    simp [flat, lenS, h1, flat_len h2]
theorem flat_append : ∀ (l m : List Cs), flat (l ++ m) = flat l ++ flat m
  | [], _ => rfl
  | s :: r, m => by simp [flat, flat_append r m]
theorem lenS_append : ∀ (l m : List Cs), lenS (l ++ m) = lenS l + lenS m
  | [], m => by simp [lenS]
  | s :: r, m => by simp [lenS, lenS_append r m]; omega
theorem okS_append : ∀ {l m : List Cs}, okS l → okS m → okS (l ++ m)
  | [], _, _, h => h
  | s :: r, m, h, h' => by
    obtain ⟨h1, h2⟩ := okS_cons.1 h
    exact okS_cons.2 ⟨h1, okS_append h2 h'⟩
def dropS : List Cs → Nat → Option (List Cs)
  | [], k => bif Nat.beq k 0 then some [] else none
  | s :: r, k => bif Nat.beq k 0 then some (s :: r) else bif Nat.ble s.len k then dropS r (k - s.len) else none
def takeS : List Cs → Nat → Option (List Cs)
  | [], k => bif Nat.beq k 0 then some [] else none
  | s :: r, k => bif Nat.beq k 0 then some [] else bif Nat.ble s.len k then (match takeS r (k - s.len) with | some t => some (s :: t) | none => none) else none
def at1 : List Cs → Nat → Option Value
  | [], _ => none
  | .one v :: r, k => bif Nat.beq k 0 then some v else at1 r (k - 1)
  | .blk m _ :: r, k => bif Nat.ble m k then at1 r (k - m) else none
def catS : List Cs → List Cs → Option (List Cs)
  | [], m => some m
  | s :: r, m => match catS r m with | some t => some (s :: t) | none => none
def putS (l : List Cs) (o : Nat) (new : List Cs) : Option (List Cs) :=
  match takeS l o, dropS l (o + lenS new) with
  | some a, some b => (match catS new b with | some c => catS a c | none => none)
  | _, _ => none
def subS (l : List Cs) (o m : Nat) : Option (List Cs) := match dropS l o with | some r => takeS r m | none => none
theorem beqT {a b : Nat} (h : Nat.beq a b = true) : a = b := Nat.eq_of_beq_eq_true h
theorem bleT {a b : Nat} (h : Nat.ble a b = true) : a ≤ b := Nat.le_of_ble_eq_true h
theorem catS_eq : ∀ {l m r : List Cs}, catS l m = some r → r = l ++ m
  | [], m, r, h => by simp [catS] at h; simp [h]
  | s :: l, m, r, h => by
    simp only [catS] at h
    split at h
    · rename_i t ht; cases h; simp [catS_eq ht]
    · cases h
theorem dropS_ok : ∀ {l : List Cs} {k : Nat} {r : List Cs}, okS l → dropS l k = some r → (flat l).drop k = flat r ∧ okS r ∧ k + lenS r = lenS l
  | [], k, r, _, h => by
    simp only [dropS] at h
    cases hb : Nat.beq k 0 <;> rw [hb] at h <;> simp at h
    subst h; have := beqT hb; subst this; simp [flat, okS, lenS]
  | s :: l, k, r, ok, h => by
    obtain ⟨h1, h2⟩ := okS_cons.1 ok
    simp only [dropS] at h
    cases hb : Nat.beq k 0 <;> rw [hb] at h
    · cases hc : Nat.ble s.len k <;> rw [hc] at h
      · simp at h
      · have hle := bleT hc
        have ⟨e1, e2, e3⟩ := dropS_ok h2 h
        refine ⟨?_, e2, ?_⟩
        · simp only [flat]
          rw [List.drop_append, List.drop_eq_nil_of_le (by omega), List.nil_append, h1, e1]
        · simp only [lenS]; omega
    · simp at h; subst h; have := beqT hb; subst this; simp [ok]
theorem takeS_ok : ∀ {l : List Cs} {k : Nat} {r : List Cs}, okS l → takeS l k = some r → (flat l).take k = flat r ∧ okS r ∧ lenS r = k
  | [], k, r, _, h => by
    simp only [takeS] at h
    cases hb : Nat.beq k 0 <;> rw [hb] at h <;> simp at h
    subst h; have := beqT hb; subst this; simp [flat, okS, lenS]
  | s :: l, k, r, ok, h => by
    obtain ⟨h1, h2⟩ := okS_cons.1 ok
    simp only [takeS] at h
    cases hb : Nat.beq k 0 <;> rw [hb] at h
    · cases hc : Nat.ble s.len k <;> rw [hc] at h
      · simp at h
      · have hle := bleT hc
        simp only [cond_false, cond_true] at h
        split at h
        · rename_i t ht
          cases h
          have ⟨e1, e2, e3⟩ := takeS_ok h2 ht
          refine ⟨?_, okS_cons.2 ⟨h1, e2⟩, by simp only [lenS]; omega⟩
          simp only [flat]
          rw [List.take_append, List.take_of_length_le (by omega), h1, e1]
        · cases h
    · simp at h; subst h; have := beqT hb; subst this; simp [flat, okS, lenS]
theorem at1_ok : ∀ {l : List Cs} {k : Nat} {v : Value}, okS l → at1 l k = some v → (flat l)[k]? = some v
  | [], k, v, _, h => by simp [at1] at h
  | .one u :: l, k, v, ok, h => by
    simp only [at1] at h
    cases hb : Nat.beq k 0 <;> rw [hb] at h
    · have hk : k ≠ 0 := fun e => by subst e; simp [Nat.beq] at hb
      have := at1_ok (l := l) ok h
      obtain ⟨j, rfl⟩ : ∃ j, k = j + 1 := ⟨k - 1, by omega⟩
      simpa [flat, Cs.cells] using this
    · simp at h; have := beqT hb; subst this; subst h; simp [flat, Cs.cells]
  | .blk m cs :: l, k, v, ok, h => by
    obtain ⟨h1, h2⟩ := ok
    simp only [at1] at h
    cases hc : Nat.ble m k <;> rw [hc] at h
    · simp at h
    · have hle := bleT hc
      have := at1_ok (l := l) h2 h
      simp only [flat, Cs.cells]
      rw [List.getElem?_append_right (by omega), h1]; exact this
theorem subS_ok {l : List Cs} {o m : Nat} {r : List Cs} (ok : okS l) (h : subS l o m = some r) : ((flat l).drop o).take m = flat r ∧ okS r ∧ lenS r = m := by
  unfold subS at h
  split at h
  · rename_i t ht
    have ⟨e1, e2, _⟩ := dropS_ok ok ht
    have ⟨e3, e4, e5⟩ := takeS_ok e2 h
    rw [e1]; exact ⟨e3, e4, e5⟩
  · cases h
theorem putS_ok {l : List Cs} {o : Nat} {new r : List Cs} (ok : okS l) (okn : okS new) (h : putS l o new = some r) : splice (flat l) o (flat new) = flat r ∧ okS r ∧ lenS r = lenS l ∧ o + lenS new ≤ lenS l := by
  unfold putS at h
  split at h
  · rename_i a b ha hb
    split at h
    · rename_i c hc
      have e1 := catS_eq hc
      have e2 := catS_eq h
      subst e1 e2
      have ⟨a1, a2, a3⟩ := takeS_ok ok ha
      have ⟨b1, b2, b3⟩ := dropS_ok ok hb
      refine ⟨?_, okS_append a2 (okS_append okn b2), ?_, by omega⟩
      · simp only [splice, flat_append, a1, flat_len okn, b1, List.append_assoc]
      · simp only [lenS_append]; omega
    · cases h
  · cases h
abbrev Ag (s : List Cs) : Value := .agg (flat s).toArray
theorem cells_Ag (s : List Cs) : (Ag s).cells.toList = flat s := by simp [Value.cells]

/-! how elements lie in cells -/
structure Rep (G : Type) where
  sz : Nat
  sg : G → List Cs
  pos : 0 < sz
  ok : ∀ g, okS (sg g) ∧ lenS (sg g) = sz ∧ oneB (flat (sg g)) = true
def Rep.all {G : Type} (R : Rep G) (gs : List G) : List Value := gs.flatMap fun g => flat (R.sg g)
section rep
variable {G : Type} {R : Rep G}
theorem Rep.flen (g : G) : (flat (R.sg g)).length = R.sz := by rw [flat_len (R.ok g).1, (R.ok g).2.1]
theorem Rep.len : ∀ (gs : List G), (R.all gs).length = gs.length * R.sz
  | [] => by simp [Rep.all]
  | g :: r => by
    have ih := Rep.len r
    simp only [Rep.all, List.flatMap_cons, List.length_append, List.length_cons] at ih ⊢
    rw [ih, Rep.flen, Nat.add_mul, Nat.one_mul, Nat.add_comm]
theorem Rep.one (gs : List G) : ∀ u ∈ R.all gs, u.oneCell' = true := by
  intro u hu
  simp only [Rep.all, List.mem_flatMap] at hu
  obtain ⟨g, _, hg⟩ := hu
  exact oneB_mem (R.ok g).2.2 u hg
theorem Rep.all_append (a b : List G) : R.all (a ++ b) = R.all a ++ R.all b := by simp [Rep.all]
theorem Rep.all_nil : R.all ([] : List G) = [] := rfl
theorem Rep.all_take (gs : List G) (k : Nat) : (R.all gs).take (k * R.sz) = R.all (gs.take k) := by
  induction gs generalizing k with
  | nil => simp [Rep.all]
  | cons g r ih =>
    cases k with
    | zero => simp [Rep.all]
    | succ k =>
      have := ih k
      simp only [Rep.all, List.flatMap_cons, List.take_succ_cons] at this ⊢
      rw [List.take_append, Rep.flen, List.take_of_length_le (by rw [Rep.flen, Nat.succ_mul]; omega), Nat.succ_mul, Nat.add_sub_cancel, this]
theorem Rep.all_drop (gs : List G) (k : Nat) : (R.all gs).drop (k * R.sz) = R.all (gs.drop k) := by
  induction gs generalizing k with
  | nil => simp [Rep.all]
  | cons g r ih =>
    cases k with
    | zero => simp [Rep.all]
    | succ k =>
      have := ih k
      simp only [Rep.all, List.flatMap_cons, List.drop_succ_cons] at this ⊢
      rw [List.drop_append, Rep.flen, List.drop_eq_nil_of_le (by rw [Rep.flen, Nat.succ_mul]; omega), List.nil_append, Nat.succ_mul, Nat.add_sub_cancel, this]
/-- element i's cells -/
theorem Rep.elem (gs : List G) (i : Nat) (h : i < gs.length) : ((R.all gs).drop (i * R.sz)).take R.sz = flat (R.sg gs[i]) := by
  rw [Rep.all_drop, List.drop_eq_getElem_cons h]
  simp only [Rep.all, List.flatMap_cons]
  rw [List.take_append, Rep.flen, Nat.sub_self, List.take_zero, List.append_nil, List.take_of_length_le (by rw [Rep.flen]; exact Nat.le_refl _)]
theorem Rep.at_ {gs : List G} {i : Nat} (h : i < gs.length) {off : Nat} {u : Value} (hu : (flat (R.sg gs[i]))[off]? = some u) : (R.all gs)[i * R.sz + off]? = some u := by
  have h1 : off < R.sz := by rw [← Rep.flen (R := R) gs[i]]; exact (List.getElem?_eq_some_iff.1 hu).1
  rw [← Rep.elem gs i h, List.getElem?_take_of_lt h1, List.getElem?_drop] at hu
  exact hu
end rep

/-! slices: an address and a capacity -/
structure Sv where
  A : Option Addr
  c : Nat
abbrev sl (s : Sv) (n : Nat) : Value := .slice s.A n s.c
def Slr {G : Type} (w : World) (R : Rep G) (v : Value) (gs : List G) : Prop := Sl w R.sz v gs.length (R.all gs)
/-- block g holds these segments -/
structure boxA (g : Nat) (t : TypeId) (cs : List Cs) (h : Hp) : Prop where
  ok : okS cs
  eq : h = hone g (.cells (flat cs).toArray t (0, 0))
/-- a slice that may be appended to -/
structure rw_ {G : Type} (e : TypeId) (R : Rep G) (s : Sv) (n : Nat) (gs : List G) (h : Hp) : Prop where
  len : gs.length = n
  at_ : (s = ⟨none, 0⟩ ∧ n = 0) ∨ ∃ (g : Nat) (ys : List G), s = ⟨some ⟨g, 0, none⟩, n + ys.length⟩ ∧ n + ys.length ≤ maxLen ∧ h = hone g (.cells (R.all (gs ++ ys)).toArray e (0, 0))
theorem rw_.is {G : Type} {e : TypeId} {R : Rep G} {s : Sv} {n : Nat} {gs : List G} {h : Hp} (hr : rw_ e R s n gs h) : rowA e R.sz (sl s n) n (R.all gs) h := by
  obtain ⟨hl, ⟨rfl, rfl⟩ | ⟨g, ys, rfl, hm, rfl⟩⟩ := hr
  · obtain rfl := List.eq_nil_of_length_eq_zero hl
    exact ⟨.inl ⟨rfl, rfl, rfl⟩⟩
  · refine ⟨.inr ⟨g, _, _, rfl, by rw [Rep.len, hl], Nat.le_add_right _ _, hm, ?_, ?_, rfl⟩⟩
    · simp [Rep.len, hl]
    · rw [← hl]; show (R.all (gs ++ ys)).take (gs.length * R.sz) = _
      rw [Rep.all_take, List.take_left]

/-! what is known of memory -/
class Rw (w0 : World) (X : Nat → Prop) (L : List Assn) (v : Value) {G : outParam Type} (R : outParam (Rep G)) (gs : outParam (List G)) : Prop where
  get : ∀ w, St w0 X L w → Slr w R v gs
class FBox (L : List Assn) (g : Nat) (t : outParam TypeId) (cs : outParam (List Cs)) : Prop where
  get : boxA g t cs ∈ L
class FRow (L : List Assn) (s : Sv) (n : Nat) {G : outParam Type} (e : outParam TypeId) (R : outParam (Rep G)) (gs : outParam (List G)) : Prop where
  get : rw_ e R s n gs ∈ L
/-- A in L, and what stays without it -/
class Pk (L : List Assn) (A : Assn) (L' : outParam (List Assn)) : Prop where
  get : ∃ i, L[i]? = some A ∧ L' = L.eraseIdx i
/-- A' in A's place -/
class Upd (L : List Assn) (A A' : Assn) (L' : outParam (List Assn)) : Prop where
  get : ∃ i, L[i]? = some A ∧ L' = L.set i A'
class Ent (L L' : List Assn) : Prop where
  go : ∀ w0 X w, St w0 X L w → St w0 X L' w
section inst
variable {L : List Assn} {A B : Assn} {g : Nat} {t : TypeId} {cs : List Cs}
instance FBox.hd : FBox (boxA g t cs :: L) g t cs := ⟨by simp⟩
instance FBox.tl [h : FBox L g t cs] : FBox (B :: L) g t cs := ⟨List.mem_cons_of_mem _ h.get⟩
instance FRow.hd {G : Type} {e : TypeId} {R : Rep G} {s : Sv} {n : Nat} {gs : List G} : FRow (rw_ e R s n gs :: L) s n e R gs := ⟨by simp⟩
instance FRow.tl {G : Type} {e : TypeId} {R : Rep G} {s : Sv} {n : Nat} {gs : List G} [h : FRow L s n e R gs] : FRow (B :: L) s n e R gs := ⟨List.mem_cons_of_mem _ h.get⟩
instance Pk.hd : Pk (A :: L) A L := ⟨0, rfl, rfl⟩
instance Pk.tl {L' : List Assn} [h : Pk L A L'] : Pk (B :: L) A (B :: L') := by
  obtain ⟨i, h1, h2⟩ := h.get
  exact ⟨i + 1, by simpa using h1, by rw [h2]; rfl⟩
instance Upd.hd {A' : Assn} : Upd (A :: L) A A' (A' :: L) := ⟨0, rfl, rfl⟩
instance Upd.tl {A' : Assn} {L' : List Assn} [h : Upd L A A' L'] : Upd (B :: L) A A' (B :: L') := by
  obtain ⟨i, h1, h2⟩ := h.get
  exact ⟨i + 1, by simpa using h1, by rw [h2]; rfl⟩
end inst
section st
variable {w0 w w' : World} {X : Nat → Prop} {L L' : List Assn} {A A' : Assn}
theorem St.getM (h : St w0 X L w) (hi : A ∈ L) : ∃ k, A k ∧ Sub k w := by
  obtain ⟨i, hi⟩ := List.getElem?_of_mem hi
  exact h.get hi
theorem St.front' (h : St w0 X L w) {i : Nat} (hi : L[i]? = some A) : St w0 X (A :: L.eraseIdx i) w := by
  obtain ⟨hp, hb, hs, hX⟩ := h.res
  exact ⟨h.os, h.tape, h.output, h.size, h.keep, hp, big_front hi hb, hs, hX⟩
theorem big_back : ∀ {L : List Assn} {i : Nat} {A : Assn} {h : Hp}, i < L.length → sepa A (big (L.eraseIdx i)) h → big (L.set i A) h
  | [], i, A, h, hi, _ => by simp at hi
  | B :: L, 0, A, h, _, hb => hb
  | B :: L, i + 1, A, h, hi, hb => by
    obtain ⟨h1, h2, d, e, hB, hL⟩ := sepa_swap hb
    exact ⟨h1, h2, d, e, hB, big_back (by simpa using hi) hL⟩
theorem St.set {i : Nat} (h : St w0 X (A' :: L.eraseIdx i) w) (hi : i < L.length) : St w0 X (L.set i A') w := by
  obtain ⟨hp, hb, hs, hX⟩ := h.res
  exact ⟨h.os, h.tape, h.output, h.size, h.keep, hp, big_back hi hb, hs, hX⟩
theorem big_tail : ∀ {L : List Assn} {h : Hp}, sepa A (big L) h → ∃ h', big L h' ∧ (∀ b, h' b ≠ none → h b = h' b)
  | L, h, ⟨h1, h2, d, e, _, hL⟩ => ⟨h2, hL, fun b hb => by
    subst e
    rcases d b with e1 | e1
    · simp [hun, e1]
    · exact absurd e1 hb⟩
theorem St.tail (h : St w0 X (A :: L) w) : St w0 X L w := by
  obtain ⟨hp, hb, hs, hX⟩ := h.res
  obtain ⟨h', h1, h2⟩ := big_tail (A := A) hb
  exact ⟨h.os, h.tape, h.output, h.size, h.keep, h', h1, fun b o e => hs b o (by rw [h2 b (by rw [e]; simp), e]), fun b hb' => hX b (by rw [h2 b hb']; exact hb')⟩
theorem St.cons_mono (hm : ∀ w0 X w, St w0 X L w → St w0 X L' w) (h : St w0 X (A :: L) w) : St w0 X (A :: L') w := by
  obtain ⟨hp, ⟨h1, h2, d, e, hA, hL⟩, hs, hX⟩ := h.res
  subst e
  -- the part behind, in a world of its own
  have key := hm w (fun b => h2 b ≠ none) w ⟨rfl, Tp.rfl, rfl, Nat.le_refl _, fun _ _ _ => rfl, h2, hL, hs.right d, fun b hb => .inl hb⟩
  obtain ⟨k, kb, ks, kX⟩ := key.res
  have hd : ∀ b, k b ≠ none → h2 b ≠ none := fun b hb => (kX b hb).elim id fun hge => absurd (Sub.lt ks hb) (by omega)
  refine ⟨h.os, h.tape, h.output, h.size, h.keep, hun h1 k, ⟨h1, k, fun b => ?_, rfl, hA, kb⟩, hs.left.hun ks, fun b hb => ?_⟩
  · rcases d b with e1 | e1
    · exact .inl e1
    · right
      cases e2 : k b with
      | none => rfl
      | some o => exact absurd e1 (hd b (by rw [e2]; simp))
  · refine hX b fun e => hb ?_
    have := hun_none.1 e
    refine hun_none.2 ⟨this.1, ?_⟩
    cases e2 : k b with
    | none => rfl
    | some o => exact absurd this.2 (hd b (by rw [e2]; simp))
end st
section inst2
variable {L L' : List Assn} {A B : Assn}
instance Ent.nil : Ent L [] := ⟨fun _ _ _ h => ⟨h.os, h.tape, h.output, h.size, h.keep, hemp, trivial, fun _ _ e => by simp [hemp] at e, fun b hb => absurd rfl hb⟩⟩
instance Ent.cons {R : List Assn} [h : Pk L A R] [h' : Ent R L'] : Ent L (A :: L') := ⟨fun w0 X w hs => by
  obtain ⟨i, h1, h2⟩ := h.get
  have := hs.front' h1
  rw [← h2] at this
  exact St.cons_mono h'.go this⟩
end inst2
section rwi
variable {w0 : World} {X : Nat → Prop} {L : List Assn} {A B : Assn} {G : Type} {R : Rep G} {gs : List G} {v : Value}
theorem Rw.of_row {e : TypeId} {s : Sv} {n : Nat} (hm : rw_ e R s n gs ∈ L) : Rw w0 X L (sl s n) R gs := ⟨fun w hst => by
  obtain ⟨i, hi⟩ := List.getElem?_of_mem hm
  obtain ⟨k, hk0, hs⟩ := hst.get hi
  have hl := hk0.len
  have hk := hk0.is
  subst hl
  have h2 : St w (fun b => k b ≠ none) [rowA e R.sz (sl s gs.length) gs.length (R.all gs)] w := ⟨rfl, Tp.rfl, rfl, Nat.le_refl _, fun _ _ _ => rfl, k, ⟨k, hemp, fun b => .inr rfl, by funext b; simp [hun, hemp], hk, trivial⟩, hs, fun b hb => .inl hb⟩
  exact h2.row (i := 0) rfl⟩
instance Rw.row {e : TypeId} {s : Sv} {n : Nat} [h : FRow L s n e R gs] : Rw w0 X L (.slice s.A n s.c) R gs := Rw.of_row h.get
theorem Rw.old (h : Slr w0 R v gs) (L : List Assn) : Rw w0 no L v R gs := ⟨fun _ hst => hst.sl h⟩
theorem Rw.len {A : Option Addr} {n c : Nat} (h : Rw w0 X L (.slice A n c) R gs) {w : World} (hst : St w0 X L w) : gs.length = n := by
  obtain ⟨_, _, e, _⟩ := h.get w hst
  cases e; rfl
end rwi
theorem Slr.cap {G : Type} {R : Rep G} {gs : List G} {w : World} {v : Value} (h : Slr w R v gs) : gs.length ≤ 9223372036854775807 := by
  obtain ⟨_, c, _, _, h2, h3, _⟩ := h
  simp only [maxLen] at h3; omega
end Go.Proofs.YtkjpemkankefnaaDoor
