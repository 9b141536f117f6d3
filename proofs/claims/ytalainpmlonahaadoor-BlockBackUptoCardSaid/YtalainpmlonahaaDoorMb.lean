/-
  Na + Nb + Nc + Nd + Ne + Nf + Ng + Nz
-/
import Derived.Test.YtalainpmlonahaaDoorMa
import Derived.Laws.Cover3
import Derived.Lib.AppendZerosOnto
import Derived.Laws.CopyRow
import Derived.Test.YtalainpmlonahaaDoorProg
section
/-!
  THE SECOND ENGINE, first part: cells in segments, what is known of memory (classes), the parts of the heap. No program in sight.
-/
namespace Go.Proofs.YtalainpmlonahaaDoor
open Go.RowKit

/-! cells in segments: a segment's length is a numeral -/
inductive Cs where
  | one (v : Value)
  | blk (m : Nat) (cs : List Value)
def Cs.cells : Cs → List Value
  | .one v => [v]
  | .blk _ cs => cs
def Cs.len : Cs → Nat
  | .one _ => 1
  | .blk m _ => m
def flat : List Cs → List Value
  | [] => []
  | s :: r => s.cells ++ flat r
def lenS : List Cs → Nat
  | [] => 0
  | s :: r => s.len + lenS r
def okS : List Cs → Prop
  | [] => True
  | .one _ :: r => okS r
  | .blk m cs :: r => cs.length = m ∧ okS r
theorem okS_cons {s : Cs} {r : List Cs} : okS (s :: r) ↔ s.cells.length = s.len ∧ okS r := by cases s <;> simp [okS, Cs.cells, Cs.len]
theorem flat_len : ∀ {l : List Cs}, okS l → (flat l).length = lenS l
  | [], _ => rfl
  | s :: r, h => by
    obtain ⟨h1, h2⟩ := okS_cons.1 h
    simp [flat, lenS, h1, flat_len h2]
theorem flat_append : ∀ (l m : List Cs), flat (l ++ m) = flat l ++ flat m
  | [], _ => rfl
  | s :: r, m => by simp [flat, flat_append r m]
theorem lenS_append : ∀ (l m : List Cs), lenS (l ++ m) = lenS l + lenS m
  | [], m => by simp [lenS]
  | s :: r, m => by simp [lenS, lenS_append r m]; omega
theorem okS_append : ∀ {l m : List Cs}, okS l → okS m → okS (l ++ m)
  | [], _, _, h => h
  | s :: r, m, h, h' => by
    obtain ⟨h1, h2⟩ := okS_cons.1 h
    exact okS_cons.2 ⟨h1, okS_append h2 h'⟩
def dropS : List Cs → Nat → Option (List Cs)
  | [], k => bif Nat.beq k 0 then some [] else none
  | s :: r, k => bif Nat.beq k 0 then some (s :: r) else bif Nat.ble s.len k then dropS r (k - s.len) else none
def takeS : List Cs → Nat → Option (List Cs)
  | [], k => bif Nat.beq k 0 then some [] else none
  | s :: r, k => bif Nat.beq k 0 then some [] else bif Nat.ble s.len k then (match takeS r (k - s.len) with | some t => some (s :: t) | none => none) else none
def at1 : List Cs → Nat → Option Value
  | [], _ => none
  | .one v :: r, k => bif Nat.beq k 0 then some v else at1 r (k - 1)
  | .blk m _ :: r, k => bif Nat.ble m k then at1 r (k - m) else none
def catS : List Cs → List Cs → Option (List Cs)
  | [], m => some m
  | s :: r, m => match catS r m with | some t => some (s :: t) | none => none
def putS (l : List Cs) (o : Nat) (new : List Cs) : Option (List Cs) :=
  match takeS l o, dropS l (o + lenS new) with
  | some a, some b => (match catS new b with | some c => catS a c | none => none)
  | _, _ => none
def subS (l : List Cs) (o m : Nat) : Option (List Cs) := match dropS l o with | some r => takeS r m | none => none
theorem beqT {a b : Nat} (h : Nat.beq a b = true) : a = b := Nat.eq_of_beq_eq_true h
theorem bleT {a b : Nat} (h : Nat.ble a b = true) : a ≤ b := Nat.le_of_ble_eq_true h
theorem catS_eq : ∀ {l m r : List Cs}, catS l m = some r → r = l ++ m
  | [], m, r, h => by simp [catS] at h; simp [h]
  | s :: l, m, r, h => by
    simp only [catS] at h
    split at h
    · rename_i t ht; cases h; simp [catS_eq ht]
    · cases h
theorem dropS_ok : ∀ {l : List Cs} {k : Nat} {r : List Cs}, okS l → dropS l k = some r → (flat l).drop k = flat r ∧ okS r ∧ k + lenS r = lenS l
  | [], k, r, _, h => by
    simp only [dropS] at h
    cases hb : Nat.beq k 0 <;> rw [hb] at h <;> simp at h
    subst h; have := beqT hb; subst this; simp [flat, okS, lenS]
  | s :: l, k, r, ok, h => by
    obtain ⟨h1, h2⟩ := okS_cons.1 ok
    simp only [dropS] at h
    cases hb : Nat.beq k 0 <;> rw [hb] at h
    · cases hc : Nat.ble s.len k <;> rw [hc] at h
      · simp at h
      · have hle := bleT hc
        have ⟨e1, e2, e3⟩ := dropS_ok h2 h
        refine ⟨?_, e2, ?_⟩
        · simp only [flat]
          rw [List.drop_append, List.drop_eq_nil_of_le (by omega), List.nil_append, h1, e1]
        · simp only [lenS]; omega
    · simp at h; subst h; have := beqT hb; subst this; simp [ok]
theorem takeS_ok : ∀ {l : List Cs} {k : Nat} {r : List Cs}, okS l → takeS l k = some r → (flat l).take k = flat r ∧ okS r ∧ lenS r = k
  | [], k, r, _, h => by
    simp only [takeS] at h
    cases hb : Nat.beq k 0 <;> rw [hb] at h <;> simp at h
    subst h; have := beqT hb; subst this; simp [flat, okS, lenS]
  | s :: l, k, r, ok, h => by
    obtain ⟨h1, h2⟩ := okS_cons.1 ok
    simp only [takeS] at h
    cases hb : Nat.beq k 0 <;> rw [hb] at h
    · cases hc : Nat.ble s.len k <;> rw [hc] at h
      · simp at h
      · have hle := bleT hc
        simp only [cond_false, cond_true] at h
        split at h
        · rename_i t ht
          cases h
          have ⟨e1, e2, e3⟩ := takeS_ok h2 ht
          refine ⟨?_, okS_cons.2 ⟨h1, e2⟩, by simp only [lenS]; omega⟩
          simp only [flat]
          rw [List.take_append, List.take_of_length_le (by omega), h1, e1]
        · cases h
    · simp at h; subst h; have := beqT hb; subst this; simp [flat, okS, lenS]
theorem at1_ok : ∀ {l : List Cs} {k : Nat} {v : Value}, okS l → at1 l k = some v → (flat l)[k]? = some v
  | [], k, v, _, h => by simp [at1] at h
  | .one u :: l, k, v, ok, h => by
    simp only [at1] at h
    cases hb : Nat.beq k 0 <;> rw [hb] at h
    · have hk : k ≠ 0 := fun e => by subst e; simp [Nat.beq] at hb
      have := at1_ok (l := l) ok h
      obtain ⟨j, rfl⟩ : ∃ j, k = j + 1 := ⟨k - 1, by omega⟩
      simpa [flat, Cs.cells] using this
    · simp at h; have := beqT hb; subst this; subst h; simp [flat, Cs.cells]
  | .blk m cs :: l, k, v, ok, h => by
    obtain ⟨h1, h2⟩ := ok
    simp only [at1] at h
    cases hc : Nat.ble m k <;> rw [hc] at h
    · simp at h
    · have hle := bleT hc
      have := at1_ok (l := l) h2 h
      simp only [flat, Cs.cells]
      rw [List.getElem?_append_right (by omega), h1]; exact this
theorem subS_ok {l : List Cs} {o m : Nat} {r : List Cs} (ok : okS l) (h : subS l o m = some r) : ((flat l).drop o).take m = flat r ∧ okS r ∧ lenS r = m := by
  unfold subS at h
  split at h
  · rename_i t ht
    have ⟨e1, e2, _⟩ := dropS_ok ok ht
    have ⟨e3, e4, e5⟩ := takeS_ok e2 h
    rw [e1]; exact ⟨e3, e4, e5⟩
  · cases h
theorem putS_ok {l : List Cs} {o : Nat} {new r : List Cs} (ok : okS l) (okn : okS new) (h : putS l o new = some r) : splice (flat l) o (flat new) = flat r ∧ okS r ∧ lenS r = lenS l ∧ o + lenS new ≤ lenS l := by
  unfold putS at h
  split at h
  · rename_i a b ha hb
    split at h
    · rename_i c hc
      have e1 := catS_eq hc
      have e2 := catS_eq h
      subst e1 e2
      have ⟨a1, a2, a3⟩ := takeS_ok ok ha
      have ⟨b1, b2, b3⟩ := dropS_ok ok hb
      refine ⟨?_, okS_append a2 (okS_append okn b2), ?_, by omega⟩
      · simp only [splice, flat_append, a1, flat_len okn, b1, List.append_assoc]
      · simp only [lenS_append]; omega
    · cases h
  · cases h
abbrev Ag (s : List Cs) : Value := .agg (flat s).toArray
theorem cells_Ag (s : List Cs) : (Ag s).cells.toList = flat s := by simp [Value.cells]

/-! how elements lie in cells -/
structure Rep (G : Type) where
  sz : Nat
  sg : G → List Cs
  pos : 0 < sz
  ok : ∀ g, okS (sg g) ∧ lenS (sg g) = sz ∧ oneB (flat (sg g)) = true
def Rep.all {G : Type} (R : Rep G) (gs : List G) : List Value := gs.flatMap fun g => flat (R.sg g)
section rep
variable {G : Type} {R : Rep G}
theorem Rep.flen (g : G) : (flat (R.sg g)).length = R.sz := by rw [flat_len (R.ok g).1, (R.ok g).2.1]
theorem Rep.len : ∀ (gs : List G), (R.all gs).length = gs.length * R.sz
  | [] => by simp [Rep.all]
  | g :: r => by
    have ih := Rep.len r
    simp only [Rep.all, List.flatMap_cons, List.length_append, List.length_cons] at ih ⊢
    rw [ih, Rep.flen, Nat.add_mul, Nat.one_mul, Nat.add_comm]
theorem Rep.one (gs : List G) : ∀ u ∈ R.all gs, u.oneCell' = true := by
  intro u hu
  simp only [Rep.all, List.mem_flatMap] at hu
  obtain ⟨g, _, hg⟩ := hu
  exact oneB_mem (R.ok g).2.2 u hg
theorem Rep.all_append (a b : List G) : R.all (a ++ b) = R.all a ++ R.all b := by simp [Rep.all]
theorem Rep.all_nil : R.all ([] : List G) = [] := rfl
theorem Rep.all_take (gs : List G) (k : Nat) : (R.all gs).take (k * R.sz) = R.all (gs.take k) := by
  induction gs generalizing k with
  | nil => simp [Rep.all]
  | cons g r ih =>
    cases k with
    | zero => simp [Rep.all]
    | succ k =>
      have := ih k
      simp only [Rep.all, List.flatMap_cons, List.take_succ_cons] at this ⊢
      rw [List.take_append, Rep.flen, List.take_of_length_le (by rw [Rep.flen, Nat.succ_mul]; omega), Nat.succ_mul, Nat.add_sub_cancel, this]
theorem Rep.all_drop (gs : List G) (k : Nat) : (R.all gs).drop (k * R.sz) = R.all (gs.drop k) := by
  induction gs generalizing k with
  | nil => simp [Rep.all]
  | cons g r ih =>
    cases k with
    | zero => simp [Rep.all]
    | succ k =>
      have := ih k
      simp only [Rep.all, List.flatMap_cons, List.drop_succ_cons] at this ⊢
      rw [List.drop_append, Rep.flen, List.drop_eq_nil_of_le (by rw [Rep.flen, Nat.succ_mul]; omega), List.nil_append, Nat.succ_mul, Nat.add_sub_cancel, this]
/-- element i's cells -/
theorem Rep.elem (gs : List G) (i : Nat) (h : i < gs.length) : ((R.all gs).drop (i * R.sz)).take R.sz = flat (R.sg gs[i]) := by
  rw [Rep.all_drop, List.drop_eq_getElem_cons h]
  simp only [Rep.all, List.flatMap_cons]
  rw [List.take_append, Rep.flen, Nat.sub_self, List.take_zero, List.append_nil, List.take_of_length_le (by rw [Rep.flen]; exact Nat.le_refl _)]
theorem Rep.at_ {gs : List G} {i : Nat} (h : i < gs.length) {off : Nat} {u : Value} (hu : (flat (R.sg gs[i]))[off]? = some u) : (R.all gs)[i * R.sz + off]? = some u := by
  have h1 : off < R.sz := by rw [← Rep.flen (R := R) gs[i]]; exact (List.getElem?_eq_some_iff.1 hu).1
  rw [← Rep.elem gs i h, List.getElem?_take_of_lt h1, List.getElem?_drop] at hu
  exact hu
end rep

/-! slices: an address and a capacity -/
structure Sv where
  A : Option Addr
  c : Nat
abbrev sl (s : Sv) (n : Nat) : Value := .slice s.A n s.c
def Slr {G : Type} (w : World) (R : Rep G) (v : Value) (gs : List G) : Prop := Sl w R.sz v gs.length (R.all gs)
/-- block g holds these segments -/
structure boxA (g : Nat) (t : TypeId) (cs : List Cs) (h : Hp) : Prop where
  ok : okS cs
  eq : h = hone g (.cells (flat cs).toArray t (0, 0))
/-- a slice that may be appended to -/
structure rw_ {G : Type} (e : TypeId) (R : Rep G) (s : Sv) (n : Nat) (gs : List G) (h : Hp) : Prop where
  len : gs.length = n
  at_ : (s = ⟨none, 0⟩ ∧ n = 0) ∨ ∃ (g : Nat) (ys : List G), s = ⟨some ⟨g, 0, none⟩, n + ys.length⟩ ∧ n + ys.length ≤ maxLen ∧ h = hone g (.cells (R.all (gs ++ ys)).toArray e (0, 0))
theorem rw_.is {G : Type} {e : TypeId} {R : Rep G} {s : Sv} {n : Nat} {gs : List G} {h : Hp} (hr : rw_ e R s n gs h) : rowA e R.sz (sl s n) n (R.all gs) h := by
  obtain ⟨hl, ⟨rfl, rfl⟩ | ⟨g, ys, rfl, hm, rfl⟩⟩ := hr
  · obtain rfl := List.eq_nil_of_length_eq_zero hl
    exact ⟨.inl ⟨rfl, rfl, rfl⟩⟩
  · refine ⟨.inr ⟨g, _, _, rfl, by rw [Rep.len, hl], Nat.le_add_right _ _, hm, ?_, ?_, rfl⟩⟩
    · simp [Rep.len, hl]
    · rw [← hl]; show (R.all (gs ++ ys)).take (gs.length * R.sz) = _
      rw [Rep.all_take, List.take_left]

/-! what is known of memory -/
class Rw (w0 : World) (X : Nat → Prop) (L : List Assn) (v : Value) {G : outParam Type} (R : outParam (Rep G)) (gs : outParam (List G)) : Prop where
  get : ∀ w, St w0 X L w → Slr w R v gs
class FBox (L : List Assn) (g : Nat) (t : outParam TypeId) (cs : outParam (List Cs)) : Prop where
  get : boxA g t cs ∈ L
class FRow (L : List Assn) (s : Sv) (n : Nat) {G : outParam Type} (e : outParam TypeId) (R : outParam (Rep G)) (gs : outParam (List G)) : Prop where
  get : rw_ e R s n gs ∈ L
/-- A in L, and what stays without it -/
class Pk (L : List Assn) (A : Assn) (L' : outParam (List Assn)) : Prop where
  get : ∃ i, L[i]? = some A ∧ L' = L.eraseIdx i
/-- A' in A's place -/
class Upd (L : List Assn) (A A' : Assn) (L' : outParam (List Assn)) : Prop where
  get : ∃ i, L[i]? = some A ∧ L' = L.set i A'
class Ent (L L' : List Assn) : Prop where
  go : ∀ w0 X w, St w0 X L w → St w0 X L' w
section inst
variable {L : List Assn} {A B : Assn} {g : Nat} {t : TypeId} {cs : List Cs}
instance FBox.hd : FBox (boxA g t cs :: L) g t cs := ⟨by simp⟩
instance FBox.tl [h : FBox L g t cs] : FBox (B :: L) g t cs := ⟨List.mem_cons_of_mem _ h.get⟩
instance FRow.hd {G : Type} {e : TypeId} {R : Rep G} {s : Sv} {n : Nat} {gs : List G} : FRow (rw_ e R s n gs :: L) s n e R gs := ⟨by simp⟩
instance FRow.tl {G : Type} {e : TypeId} {R : Rep G} {s : Sv} {n : Nat} {gs : List G} [h : FRow L s n e R gs] : FRow (B :: L) s n e R gs := ⟨List.mem_cons_of_mem _ h.get⟩
instance Pk.hd : Pk (A :: L) A L := ⟨0, rfl, rfl⟩
instance Pk.tl {L' : List Assn} [h : Pk L A L'] : Pk (B :: L) A (B :: L') := by
  obtain ⟨i, h1, h2⟩ := h.get
  exact ⟨i + 1, by simpa using h1, by rw [h2]; rfl⟩
instance Upd.hd {A' : Assn} : Upd (A :: L) A A' (A' :: L) := ⟨0, rfl, rfl⟩
instance Upd.tl {A' : Assn} {L' : List Assn} [h : Upd L A A' L'] : Upd (B :: L) A A' (B :: L') := by
  obtain ⟨i, h1, h2⟩ := h.get
  exact ⟨i + 1, by simpa using h1, by rw [h2]; rfl⟩
end inst
section st
variable {w0 w w' : World} {X : Nat → Prop} {L L' : List Assn} {A A' : Assn}
theorem St.getM (h : St w0 X L w) (hi : A ∈ L) : ∃ k, A k ∧ Sub k w := by
  obtain ⟨i, hi⟩ := List.getElem?_of_mem hi
  exact h.get hi
theorem St.front' (h : St w0 X L w) {i : Nat} (hi : L[i]? = some A) : St w0 X (A :: L.eraseIdx i) w := by
  obtain ⟨hp, hb, hs, hX⟩ := h.res
  exact ⟨h.os, h.tape, h.output, h.size, h.keep, hp, big_front hi hb, hs, hX⟩
theorem big_back : ∀ {L : List Assn} {i : Nat} {A : Assn} {h : Hp}, i < L.length → sepa A (big (L.eraseIdx i)) h → big (L.set i A) h
  | [], i, A, h, hi, _ => by simp at hi
  | B :: L, 0, A, h, _, hb => hb
  | B :: L, i + 1, A, h, hi, hb => by
    obtain ⟨h1, h2, d, e, hB, hL⟩ := sepa_swap hb
    exact ⟨h1, h2, d, e, hB, big_back (by simpa using hi) hL⟩
theorem St.set {i : Nat} (h : St w0 X (A' :: L.eraseIdx i) w) (hi : i < L.length) : St w0 X (L.set i A') w := by
  obtain ⟨hp, hb, hs, hX⟩ := h.res
  exact ⟨h.os, h.tape, h.output, h.size, h.keep, hp, big_back hi hb, hs, hX⟩
theorem big_tail : ∀ {L : List Assn} {h : Hp}, sepa A (big L) h → ∃ h', big L h' ∧ (∀ b, h' b ≠ none → h b = h' b)
  | L, h, ⟨h1, h2, d, e, _, hL⟩ => ⟨h2, hL, fun b hb => by
    subst e
    rcases d b with e1 | e1
    · simp [hun, e1]
    · exact absurd e1 hb⟩
theorem St.tail (h : St w0 X (A :: L) w) : St w0 X L w := by
  obtain ⟨hp, hb, hs, hX⟩ := h.res
  obtain ⟨h', h1, h2⟩ := big_tail (A := A) hb
  exact ⟨h.os, h.tape, h.output, h.size, h.keep, h', h1, fun b o e => hs b o (by rw [h2 b (by rw [e]; simp), e]), fun b hb' => hX b (by rw [h2 b hb']; exact hb')⟩
theorem St.cons_mono (hm : ∀ w0 X w, St w0 X L w → St w0 X L' w) (h : St w0 X (A :: L) w) : St w0 X (A :: L') w := by
  obtain ⟨hp, ⟨h1, h2, d, e, hA, hL⟩, hs, hX⟩ := h.res
  subst e
  -- the part behind, in a world of its own
  have key := hm w (fun b => h2 b ≠ none) w ⟨rfl, Tp.rfl, rfl, Nat.le_refl _, fun _ _ _ => rfl, h2, hL, hs.right d, fun b hb => .inl hb⟩
  obtain ⟨k, kb, ks, kX⟩ := key.res
  have hd : ∀ b, k b ≠ none → h2 b ≠ none := fun b hb => (kX b hb).elim id fun hge => absurd (Sub.lt ks hb) (by omega)
  refine ⟨h.os, h.tape, h.output, h.size, h.keep, hun h1 k, ⟨h1, k, fun b => ?_, rfl, hA, kb⟩, hs.left.hun ks, fun b hb => ?_⟩
  · rcases d b with e1 | e1
    · exact .inl e1
    · right
      cases e2 : k b with
      | none => rfl
      | some o => exact absurd e1 (hd b (by rw [e2]; simp))
  · refine hX b fun e => hb ?_
    have := hun_none.1 e
    refine hun_none.2 ⟨this.1, ?_⟩
    cases e2 : k b with
    | none => rfl
    | some o => exact absurd this.2 (hd b (by rw [e2]; simp))
end st
section inst2
variable {L L' : List Assn} {A B : Assn}
instance Ent.nil : Ent L [] := ⟨fun _ _ _ h => ⟨h.os, h.tape, h.output, h.size, h.keep, hemp, trivial, fun _ _ e => by simp [hemp] at e, fun b hb => absurd rfl hb⟩⟩
instance Ent.cons {R : List Assn} [h : Pk L A R] [h' : Ent R L'] : Ent L (A :: L') := ⟨fun w0 X w hs => by
  obtain ⟨i, h1, h2⟩ := h.get
  have := hs.front' h1
  rw [← h2] at this
  exact St.cons_mono h'.go this⟩
end inst2
section rwi
variable {w0 : World} {X : Nat → Prop} {L : List Assn} {A B : Assn} {G : Type} {R : Rep G} {gs : List G} {v : Value}
theorem Rw.of_row {e : TypeId} {s : Sv} {n : Nat} (hm : rw_ e R s n gs ∈ L) : Rw w0 X L (sl s n) R gs := ⟨fun w hst => by
  obtain ⟨i, hi⟩ := List.getElem?_of_mem hm
  obtain ⟨k, hk0, hs⟩ := hst.get hi
  have hl := hk0.len
  have hk := hk0.is
  subst hl
  have h2 : St w (fun b => k b ≠ none) [rowA e R.sz (sl s gs.length) gs.length (R.all gs)] w := ⟨rfl, Tp.rfl, rfl, Nat.le_refl _, fun _ _ _ => rfl, k, ⟨k, hemp, fun b => .inr rfl, by funext b; simp [hun, hemp], hk, trivial⟩, hs, fun b hb => .inl hb⟩
  exact h2.row (i := 0) rfl⟩
instance Rw.row {e : TypeId} {s : Sv} {n : Nat} [h : FRow L s n e R gs] : Rw w0 X L (.slice s.A n s.c) R gs := Rw.of_row h.get
theorem Rw.old (h : Slr w0 R v gs) (L : List Assn) : Rw w0 no L v R gs := ⟨fun _ hst => hst.sl h⟩
theorem Rw.len {A : Option Addr} {n c : Nat} (h : Rw w0 X L (.slice A n c) R gs) {w : World} (hst : St w0 X L w) : gs.length = n := by
  obtain ⟨_, _, e, _⟩ := h.get w hst
  cases e; rfl
end rwi
theorem Slr.cap {G : Type} {R : Rep G} {gs : List G} {w : World} {v : Value} (h : Slr w R v gs) : gs.length ≤ 9223372036854775807 := by
  obtain ⟨_, c, _, _, h2, h3, _⟩ := h
  simp only [maxLen] at h3; omega
end Go.Proofs.YtalainpmlonahaaDoor
end
section
/-!
  THE SECOND ENGINE, second part: judgements in which the world is hidden; control. No program in sight.
-/
set_option linter.unusedVariables false
namespace Go.Proofs.YtalainpmlonahaaDoor
open Go.RowKit

/-- none: a region in its order; else: what is left of the order, and the pledges -/
abbrev Ms := Option (Od × Pledges)
def nextM : Ms → Ms
  | none => none
  | some (r, D) => some (r.tail, D)
def loadM (C : World → Prop) : Ms → Ms
  | none => none
  | some (.cons i r, D) => some (r, (i, C) :: D)
  | some (r, D) => some (r, D)
/-- what is next, as far as the order does not part -/
def lnk (ops : Array Oper) : Od → List Oper → Prop
  | .cons i r, o :: l => nthO ops.toList i = some o ∧ lnk ops r l
  | .cons _ _, [] => False
  | _, [] => True
  | _, _ => False
def hdOk (ops : Array Oper) (o : Oper) (i : Nat) : Prop := ∃ o', ops[i]? = some o' ∧ o'.op = o.op
structure GC (P : Program) (n : Nat) (w0 : World) (X : Nat → Prop) (c : Code) (Q : Cont) (E : Env) (L : List Assn) : Prop where
  go : ∀ w, St w0 X L w → T P n c Q E w
structure GN (P : Program) (n : Nat) (w0 : World) (X : Nat → Prop) (Q : Cont) (E : Env) (L : List Assn) : Prop where
  go : ∀ w, St w0 X L w → N P n Q E w
structure GX (P : Program) (n : Nat) (w0 : World) (X : Nat → Prop) (id : Nat) (Q : Cont) (E : Env) (L : List Assn) : Prop where
  go : ∀ w, St w0 X L w → Go.Proofs.YtalainpmlonahaaDoor.X P n id Q E w
structure GR (P : Program) (n : Nat) (w0 : World) (X : Nat → Prop) (Q : Cont) (E : Env) (L : List Assn) : Prop where
  go : ∀ w, St w0 X L w → RT P n Q E w
structure GO (P : Program) (n : Nat) (w0 : World) (X : Nat → Prop) (s : Ms) (ops : Array Oper) (l : List Oper) (Q : Cont) (E : Env) (L : List Assn) : Prop where
  go : match s with
    | none => ∀ w, St w0 X L w → TL P n ops l Q E w
    | some (r, D) => match l, r with
      | [], .nil => ∀ w, St w0 X L w → N P n Q E w
      | [], .fork i r1 j r2 => ∀ w, St w0 X L w → TW P n ops D (.fork i r1 j r2) Q E w
      | o :: l', .cons i r' => hdOk ops o i → lnk ops r' l' → ∀ w, St w0 X L w → TO P n ops D o i r' Q E w
      | _, _ => True
/-- the pledges hold behind the operation at hand, where L' is known -/
structure Dm (w0 : World) (X : Nat → Prop) (ops : Array Oper) (s : Ms) (L' : List Assn) : Prop where
  go : match s with
    | some (.cons i _, D) => ∀ w, St w0 X L' w → Dem ops i D w
    | _ => True

section
variable {P : Program} {n : Nat} {w0 : World} {X : Nat → Prop} {Q : Cont} {E : Env} {L L' : List Assn} {s : Ms} {ops : Array Oper} {rest : List Oper} {v : Value}
variable {d : Nat} {ty : TypeId} {pos : String} {aft : Array Edge} {op : Op}
theorem dm_none : Dm w0 X ops none L' := ⟨trivial⟩
theorem dm0 {i : Nat} {r : Od} : Dm w0 X ops (some (.cons i r, [])) L' := ⟨fun _ _ => trivial⟩
theorem dmOff {i j : Nat} {r : Od} {C : World → Prop} {D : Pledges} (hu : unordB ops i j = false) (h : Dm w0 X ops (some (.cons i r, D)) L') : Dm w0 X ops (some (.cons i r, (j, C) :: D)) L' := ⟨fun w hw => ⟨fun h0 => absurd h0 (by simp [hu]), h.go w hw⟩⟩
theorem dmOn {i j : Nat} {r : Od} {C : World → Prop} {D : Pledges} (hC : ∀ w, St w0 X L' w → C w) (h : Dm w0 X ops (some (.cons i r, D)) L') : Dm w0 X ops (some (.cons i r, (j, C) :: D)) L' := ⟨fun w hw => ⟨fun _ => hC w hw, h.go w hw⟩⟩

theorem GO.tw {r : Od} {D : Pledges} : ∀ {l : List Oper}, GO P n w0 X (some (r, D)) ops l Q E L → lnk ops r l → ∀ w, St w0 X L w → TW P n ops D r Q E w := by
  intro l k ph w hw
  have hk := k.go
  cases r with
  | nil =>
    cases l with
    | nil => exact tw_nil (hk w hw)
    | cons o l => exact ph.elim
  | cons i r =>
    cases l with
    | nil => exact ph.elim
    | cons o l =>
      exact tw_get ph.1 (hk ⟨o, by rw [← Array.getElem?_toList, ← nthO_eq]; exact ph.1, rfl⟩ ph.2 w hw)
  | fork i r j s =>
    cases l with
    | nil => exact hk w hw
    | cons o l => exact ph.elim
theorem light_of {o : Oper} {i : Nat} {b : Bool} (h : hdOk ops o i) (hl : isLight o.op = b) : lightAt ops i = b := by
  obtain ⟨o', h1, h2⟩ := h
  unfold lightAt; rw [h1]; simp only [h2, hl]
/-- what only computes -/
theorem go_yld (hl : isLight op = true) (h : ∀ w, St w0 X L w → Yld P n ⟨some d, op, ty, pos, aft, none⟩ E v) (hd : Nat.blt d n = true) (k : GO P n w0 X (nextM s) ops rest Q ((d, v) :: E) L) : GO P n w0 X s ops (⟨some d, op, ty, pos, aft, none⟩ :: rest) Q E L := by
  cases s with
  | none => exact ⟨fun w hw => tl_yld (h w hw) hd (k.go w hw)⟩
  | some p =>
    obtain ⟨r, D⟩ := p
    cases r with
    | nil => exact ⟨trivial⟩
    | fork => exact ⟨trivial⟩
    | cons i r => exact ⟨fun hh ph w hw => to_yld (light_of hh hl) (h w hw) hd (k.tw ph w hw)⟩
/-- what looks at memory -/
theorem go_look (C : World → Prop) (hl : isLight op = true) (hC : ∀ w, St w0 X L w → C w) (h : ∀ w, C w → YldAt P n ⟨some d, op, ty, pos, aft, none⟩ E w v) (hd : Nat.blt d n = true) (k : GO P n w0 X (loadM C s) ops rest Q ((d, v) :: E) L) : GO P n w0 X s ops (⟨some d, op, ty, pos, aft, none⟩ :: rest) Q E L := by
  cases s with
  | none => exact ⟨fun w hw => tl_yldAt (h w (hC w hw)) hd (k.go w hw)⟩
  | some p =>
    obtain ⟨r, D⟩ := p
    cases r with
    | nil => exact ⟨trivial⟩
    | fork => exact ⟨trivial⟩
    | cons i r => exact ⟨fun hh ph w hw => to_ldC C (light_of hh hl) (hC w hw) h hd (k.tw ph w hw)⟩
/-- what turns the world, makes memory, calls -/
theorem go_hv {o : Oper} {ρ : Type} {E' : ρ → Env} {L' : ρ → List Assn} {φ : ρ → Prop} (hl : isLight o.op = false)
    (h : ∀ w, St w0 X L w → ∀ rest Q, (∀ r w', φ r → St w0 X (L' r) w' → TL P n ops rest Q (E' r) w') → TL P n ops (o :: rest) Q E w)
    (hD : ∀ r, φ r → Dm w0 X ops s (L' r)) (k : ∀ r, φ r → GO P n w0 X (nextM s) ops rest Q (E' r) (L' r)) : GO P n w0 X s ops (o :: rest) Q E L := by
  cases s with
  | none => exact ⟨fun w hw => h w hw _ _ fun r w' hr hw' => (k r hr).go w' hw'⟩
  | some p =>
    obtain ⟨r, D⟩ := p
    cases r with
    | nil => exact ⟨trivial⟩
    | fork => exact ⟨trivial⟩
    | cons i r => exact ⟨fun hh ph w hw => to_heavy (light_of hh hl) (h w hw _ _ fun r' w' hr hw' => tl_nil (n_step ⟨(hD r' hr).go w' hw'⟩ ((k r' hr).tw ph w' hw')))⟩

/-! tests -/
class Tst (b : Bool) (p q : outParam Prop) : Prop where
  t : b = true → p
  f : b = false → q
instance Tst.dec {p : Prop} [Decidable p] : Tst (decide p) p (¬ p) := ⟨of_decide_eq_true, of_decide_eq_false⟩
instance (priority := high) Tst.decn {p : Prop} [Decidable p] [Decidable (¬ p)] : Tst (decide (¬ p)) (¬ p) p := ⟨of_decide_eq_true, fun e => Classical.not_not.1 (of_decide_eq_false e)⟩
instance Tst.not {b : Bool} {p q : Prop} [h : Tst b p q] : Tst (!b) q p := ⟨fun e => h.f (by simpa using e), fun e => h.t (by simpa using e)⟩
instance Tst.tt : Tst true True False := ⟨fun _ => trivial, fun e => by cases e⟩
instance Tst.ff : Tst false False True := ⟨fun e => (by cases e), fun _ => trivial⟩
instance (priority := low) Tst.any {b : Bool} : Tst b (b = true) (b = false) := ⟨id, id⟩
theorem gcond {c : Operand} {x y : Code} {b : Bool} {p q : Prop} (hc : eev E c = some (.bool b)) [ht : Tst b p q] (h1 : p → GC P n w0 X x Q E L) (h2 : q → GC P n w0 X y Q E L) : GC P n w0 X (.cond c x y) Q E L :=
  ⟨fun w hw => t_cond hc (fun e => (h1 (ht.t e)).go w hw) (fun e => (h2 (ht.f e)).go w hw)⟩
/-- a guard on something light -/
theorem guardT {j dj : Nat} {b : Bool} {p q : Prop} (hl : isLight op = true) (hj : (ops[j]?).bind (·.dst) = some dj) (hv : eget E dj = some (.bool b)) (hd : Nat.blt d n = true) [ht : Tst b p q]
    (h1 : p → GO P n w0 X s ops (⟨some d, op, ty, pos, aft, none⟩ :: rest) Q ((dj, .bool true) :: E) L) (h2 : q → GO P n w0 X (nextM s) ops rest Q ((d, undef) :: (dj, .bool false) :: E) L) :
    GO P n w0 X s ops (⟨some d, op, ty, pos, aft, some (j, true)⟩ :: rest) Q E L := by
  cases s with
  | none => exact ⟨fun w hw => tl_guard_t hj hv hd (fun e => (h1 (ht.t e)).go w hw) (fun e => (h2 (ht.f e)).go w hw)⟩
  | some pp =>
    obtain ⟨r, D⟩ := pp
    cases r with
    | nil => exact ⟨trivial⟩
    | fork => exact ⟨trivial⟩
    | cons i r => exact ⟨fun hh ph w hw => to_guard_t (light_of hh hl) hj hv hd (fun e => (h1 (ht.t e)).go hh ph w hw) (fun e => (h2 (ht.f e)).tw ph w hw)⟩
theorem guardF {j dj : Nat} {b : Bool} {p q : Prop} (hl : isLight op = true) (hj : (ops[j]?).bind (·.dst) = some dj) (hv : eget E dj = some (.bool b)) (hd : Nat.blt d n = true) [ht : Tst b p q]
    (h1 : q → GO P n w0 X s ops (⟨some d, op, ty, pos, aft, none⟩ :: rest) Q ((dj, .bool false) :: E) L) (h2 : p → GO P n w0 X (nextM s) ops rest Q ((d, undef) :: (dj, .bool true) :: E) L) :
    GO P n w0 X s ops (⟨some d, op, ty, pos, aft, some (j, false)⟩ :: rest) Q E L := by
  cases s with
  | none => exact ⟨fun w hw => tl_guard_f hj hv hd (fun e => (h1 (ht.f e)).go w hw) (fun e => (h2 (ht.t e)).go w hw)⟩
  | some pp =>
    obtain ⟨r, D⟩ := pp
    cases r with
    | nil => exact ⟨trivial⟩
    | fork => exact ⟨trivial⟩
    | cons i r => exact ⟨fun hh ph w hw => to_guard_f (light_of hh hl) hj hv hd (fun e => (h1 (ht.f e)).go hh ph w hw) (fun e => (h2 (ht.t e)).tw ph w hw)⟩
theorem guardU {j dj : Nat} {b : Bool} (hl : isLight op = true) (hj : (ops[j]?).bind (·.dst) = some dj) (hv : eget E dj = some undef) (hd : Nat.blt d n = true)
    (k : GO P n w0 X (nextM s) ops rest Q ((d, undef) :: E) L) : GO P n w0 X s ops (⟨some d, op, ty, pos, aft, some (j, b)⟩ :: rest) Q E L := by
  cases s with
  | none => exact ⟨fun w hw => tl_guard_undef hj hv hd (k.go w hw)⟩
  | some pp =>
    obtain ⟨r, D⟩ := pp
    cases r with
    | nil => exact ⟨trivial⟩
    | fork => exact ⟨trivial⟩
    | cons i r => exact ⟨fun hh ph w hw => to_guard_undef (light_of hh hl) hj hv hd (k.tw ph w hw)⟩
/-- a guard on something heavy, in a region that keeps its order or draws it -/
theorem guardTH {j dj : Nat} {b : Bool} {p q : Prop} (hl : isLight op = false) (hj : (ops[j]?).bind (·.dst) = some dj) (hv : eget E dj = some (.bool b)) (hd : Nat.blt d n = true) [ht : Tst b p q] (hD : Dm w0 X ops s L)
    (h1 : p → GO P n w0 X s ops (⟨some d, op, ty, pos, aft, none⟩ :: rest) Q ((dj, .bool true) :: E) L) (h2 : q → GO P n w0 X (nextM s) ops rest Q ((d, undef) :: (dj, .bool false) :: E) L) :
    GO P n w0 X s ops (⟨some d, op, ty, pos, aft, some (j, true)⟩ :: rest) Q E L := by
  cases s with
  | none => exact ⟨fun w hw => tl_guard_t hj hv hd (fun e => (h1 (ht.t e)).go w hw) (fun e => (h2 (ht.f e)).go w hw)⟩
  | some pp =>
    obtain ⟨r, D⟩ := pp
    cases r with
    | nil => exact ⟨trivial⟩
    | fork => exact ⟨trivial⟩
    | cons i r => exact ⟨fun hh ph w hw => to_guard_tH (light_of hh hl) hj hv hd (fun _ => ⟨hD.go w hw⟩) (fun e => (h1 (ht.t e)).go hh ph w hw) (fun e => (h2 (ht.f e)).tw ph w hw)⟩
theorem guardFH {j dj : Nat} {b : Bool} {p q : Prop} (hl : isLight op = false) (hj : (ops[j]?).bind (·.dst) = some dj) (hv : eget E dj = some (.bool b)) (hd : Nat.blt d n = true) [ht : Tst b p q] (hD : Dm w0 X ops s L)
    (h1 : q → GO P n w0 X s ops (⟨some d, op, ty, pos, aft, none⟩ :: rest) Q ((dj, .bool false) :: E) L) (h2 : p → GO P n w0 X (nextM s) ops rest Q ((d, undef) :: (dj, .bool true) :: E) L) :
    GO P n w0 X s ops (⟨some d, op, ty, pos, aft, some (j, false)⟩ :: rest) Q E L := by
  have h0 : ∀ c, eget ((dj, Value.bool c) :: E) dj = some (.bool c) := fun c => by rw [eget_cons, if_pos rfl]
  cases s with
  | none => exact ⟨fun w hw => tl_guard_f hj hv hd (fun e => (h1 (ht.f e)).go w hw) (fun e => (h2 (ht.t e)).go w hw)⟩
  | some pp =>
    obtain ⟨r, D⟩ := pp
    cases r with
    | nil => exact ⟨trivial⟩
    | fork => exact ⟨trivial⟩
    | cons i r =>
      refine ⟨fun hh ph w hw => ?_⟩
      cases hb : b
      · exact ⟨fun a ha => (to_guard_on hj (h0 false) ((h1 (ht.f hb)).go hh ph w hw)).go a (env_case hv hb ha)⟩
      · exact ⟨fun a ha => (to_off_heavy (E := (dj, .bool true) :: E) (light_of hh hl) (fun a ha => wanted_off ha hj (h0 true) rfl) rfl hd ⟨hD.go w hw⟩ ((h2 (ht.t hb)).tw ph w hw)).go a (env_case hv hb ha)⟩
theorem guardUH {j dj : Nat} {b : Bool} (hl : isLight op = false) (hj : (ops[j]?).bind (·.dst) = some dj) (hv : eget E dj = some undef) (hd : Nat.blt d n = true) (hD : Dm w0 X ops s L)
    (k : GO P n w0 X (nextM s) ops rest Q ((d, undef) :: E) L) : GO P n w0 X s ops (⟨some d, op, ty, pos, aft, some (j, b)⟩ :: rest) Q E L := by
  cases s with
  | none => exact ⟨fun w hw => tl_guard_undef hj hv hd (k.go w hw)⟩
  | some pp =>
    obtain ⟨r, D⟩ := pp
    cases r with
    | nil => exact ⟨trivial⟩
    | fork => exact ⟨trivial⟩
    | cons i r => exact ⟨fun hh ph w hw => to_off_heavy (light_of hh hl) (fun a ha => by
        have hy : yielded ops a.tmps j = none := by
          unfold yielded; rw [hj]; simp [ha.get _ _ hv, undef]
        simp [Region.wanted, hy]) rfl hd ⟨hD.go w hw⟩ (k.tw ph w hw)⟩

/-! control -/
theorem gseq {x y : Code} (h : GC P n w0 X x (.seq y Q) E L) : GC P n w0 X (.seq x y) Q E L := ⟨fun w hw => t_seq (h.go w hw)⟩
theorem gblk {id : Nat} {c : Code} (h : GC P n w0 X c (.blk id Q) E L) : GC P n w0 X (.block id c) Q E L := ⟨fun w hw => t_block (h.go w hw)⟩
theorem greg {id : Nat} {l : List Oper} (h : GO P n w0 X none l.toArray l Q E L) : GC P n w0 X (.region id l.toArray false) Q E L := ⟨fun w hw => t_region (h.go w hw)⟩
def ordL (l : List Oper) : Od → Option (List Oper)
  | .cons i r => match nthO l i, ordL l r with | some o, some t => some (o :: t) | _, _ => none
  | _ => some []
theorem ordL_ph {l : List Oper} : ∀ {r : Od} {t : List Oper}, ordL l r = some t → lnk l.toArray r t
  | .nil, t, h => by simp [ordL] at h; subst h; trivial
  | .fork _ _ _ _, t, h => by simp [ordL] at h; subst h; trivial
  | .cons i r, t, h => by
    simp only [ordL] at h
    split at h
    · rename_i o t' h1 h2; cases h; exact ⟨h1, ordL_ph h2⟩
    · cases h
theorem gdrawT (r : Od) {id : Nat} {l l' : List Oper} (hm : P.follows .mixedOrders = true) (hok : drawB l.toArray r = true) (ho : ordL l r = some l') (h : GO P n w0 X (some (r, [])) l.toArray l' Q E L) : GC P n w0 X (.region id l.toArray true) Q E L :=
  ⟨fun w hw => t_draw r hm hok hw fun w hw => h.tw (ordL_ph ho) w hw⟩
theorem gdraw (r : List Nat) {id : Nat} {l l' : List Oper} (hm : P.follows .mixedOrders = true) (hok : drawB l.toArray (Od.of r .nil) = true) (ho : ordL l (Od.of r .nil) = some l') (h : GO P n w0 X (some (Od.of r .nil, [])) l.toArray l' Q E L) : GC P n w0 X (.region id l.toArray true) Q E L := gdrawT _ hm hok ho h
/-- both ways -/
theorem gFn {i j : Nat} {r1 r2 : Od} {D : Pledges} {l : List Oper} {l1 l2 : List Oper} (hl : ops.toList = l) (h1 : ordL l (.cons i r1) = some l1) (h2 : ordL l (.cons j r2) = some l2) (k1 : GO P n w0 X (some (.cons i r1, D)) ops l1 Q E L) (k2 : GO P n w0 X (some (.cons j r2, D)) ops l2 Q E L) : GO P n w0 X (some (.fork i r1 j r2, D)) ops [] Q E L := by
  have e : l.toArray = ops := by rw [← hl]
  exact ⟨fun w hw => tw_fork (k1.tw (e ▸ ordL_ph h1) w hw) (k2.tw (e ▸ ordL_ph h2) w hw)⟩
theorem gskip (h : GN P n w0 X Q E L) : GC P n w0 X .skip Q E L := ⟨fun w hw => t_skip (h.go w hw)⟩
theorem glab {l : Nat} (h : GN P n w0 X Q E L) : GC P n w0 X (.label l) Q E L := ⟨fun w hw => t_label (h.go w hw)⟩
theorem gexit {id : Nat} (h : GX P n w0 X id Q E L) : GC P n w0 X (.exit id) Q E L := ⟨fun w hw => t_exit (h.go w hw)⟩
theorem gret (h : GR P n w0 X Q E L) : GC P n w0 X .ret Q E L := ⟨fun w hw => t_ret (h.go w hw)⟩
theorem gnil (h : GN P n w0 X Q E L) : GO P n w0 X none ops [] Q E L := ⟨fun w hw => tl_nil (h.go w hw)⟩
theorem gnilD {D : Pledges} (h : GN P n w0 X Q E L) : GO P n w0 X (some (.nil, D)) ops [] Q E L := ⟨fun w hw => h.go w hw⟩
theorem gthen {y : Code} (h : GC P n w0 X y Q E L) : GN P n w0 X (.seq y Q) E L := ⟨fun w hw => n_then (h.go w hw)⟩
theorem gnblk {id : Nat} (h : GN P n w0 X Q E L) : GN P n w0 X (.blk id Q) E L := ⟨fun w hw => n_block (h.go w hw)⟩
theorem gxs {id : Nat} {y : Code} (h : GX P n w0 X id Q E L) : GX P n w0 X id (.seq y Q) E L := ⟨fun w hw => x_then (h.go w hw)⟩
theorem gxb {id : Nat} (h : GN P n w0 X Q E L) : GX P n w0 X id (.blk id Q) E L := ⟨fun w hw => x_block (h.go w hw)⟩
theorem gxn {id id' : Nat} (hne : Nat.beq id' id = false) (h : GX P n w0 X id' Q E L) : GX P n w0 X id' (.blk id Q) E L := ⟨fun w hw => x_block_ne hne (h.go w hw)⟩
theorem gxl {σ : Type} {E' : σ → Env} {J : σ → World → Prop} {m : σ → Nat} {k : Nat} {id : Nat} (h : GX P n w0 X id Q E L) : GX P n w0 X id (.loop σ E' J m k Q) E L := ⟨fun w hw => x_loop (h.go w hw)⟩
theorem gxc {σ : Type} {E' : σ → Env} {J : σ → World → Prop} {id : Nat} (h : GX P n w0 X id Q E L) : GX P n w0 X id (.cut σ E' J Q) E L := ⟨fun w hw => x_cut (h.go w hw)⟩
theorem grs {y : Code} (h : GR P n w0 X Q E L) : GR P n w0 X (.seq y Q) E L := ⟨fun w hw => r_then (h.go w hw)⟩
theorem grb {id : Nat} (h : GR P n w0 X Q E L) : GR P n w0 X (.blk id Q) E L := ⟨fun w hw => r_block (h.go w hw)⟩
theorem grl {σ : Type} {E' : σ → Env} {J : σ → World → Prop} {m : σ → Nat} {k : Nat} (h : GR P n w0 X Q E L) : GR P n w0 X (.loop σ E' J m k Q) E L := ⟨fun w hw => r_loop (h.go w hw)⟩
theorem grc {σ : Type} {E' : σ → Env} {J : σ → World → Prop} (h : GR P n w0 X Q E L) : GR P n w0 X (.cut σ E' J Q) E L := ⟨fun w hw => r_cut (h.go w hw)⟩
/-- some slots, with what they hold -/
def evl (E : Env) : List Nat → Option Env
  | [] => some []
  | d :: r => match eget E d, evl E r with | some v, some K => some ((d, v) :: K) | _, _ => none
/-- a loop: ds: slots that stay; E': the others, ahead of them; L': what is known of memory, φ: what else; m falls -/
theorem gloop {σ : Type} (ds : List Nat) (E' : σ → Env → Env) (L' : σ → List Assn) (φ : σ → Prop) (m : σ → Nat) (x : σ) {K : Env} {c : Code} (hk : evl E ds = some K) (hs : ESub E (E' x K)) (hL : Ent L (L' x)) (hφ : φ x)
    (round : ∀ x, φ x → GC P n w0 X c (.loop σ (fun x => E' x K) (fun x w => φ x ∧ St w0 X (L' x) w) m (m x) Q) (E' x K) (L' x)) : GC P n w0 X (.loop c) Q E L :=
  ⟨fun w hw => t_loop (fun x => E' x K) (fun x w => φ x ∧ St w0 X (L' x) w) m x hs ⟨hφ, hL.go _ _ _ hw⟩ fun x w hj => (round x hj.1).go w hj.2⟩
theorem Ent.refl (L : List Assn) : Ent L L := ⟨fun _ _ _ h => h⟩
/-- a loop that leaves what is known of memory -/
theorem gloopc {σ : Type} (ds : List Nat) (E' : σ → Env → Env) (φ : σ → Prop) (m : σ → Nat) (x : σ) {K : Env} {c : Code} (hk : evl E ds = some K) (hs : ESub E (E' x K)) (hφ : φ x)
    (round : ∀ x, φ x → GC P n w0 X c (.loop σ (fun x => E' x K) (fun x w => φ x ∧ St w0 X ((fun _ => L) x) w) m (m x) Q) (E' x K) L) : GC P n w0 X (.loop c) Q E L :=
  gloop ds E' (fun _ => L) φ m x hk hs (Ent.refl L) hφ round
theorem gnl {σ : Type} {E' : σ → Env} {L' : σ → List Assn} {φ : σ → Prop} {m : σ → Nat} {k : Nat} (x : σ) (hs : ESub E (E' x)) (hL : Ent L (L' x)) (hφ : φ x) (hm : m x < k) : GN P n w0 X (.loop σ E' (fun x w => φ x ∧ St w0 X (L' x) w) m k Q) E L :=
  ⟨fun w hw => n_loop x hs ⟨hφ, hL.go _ _ _ hw⟩ hm⟩
/-- the same, of two and of three variables -/
def loop2 {σ τ : Type} (w0 : World) (X : Nat → Prop) (E' : σ → τ → Env) (L' : σ → τ → List Assn) (φ : σ → τ → Prop) (m : σ → τ → Nat) (k : Nat) (Q : Cont) : Cont :=
  .loop (σ × τ) (fun p => E' p.1 p.2) (fun p w => φ p.1 p.2 ∧ St w0 X (L' p.1 p.2) w) (fun p => m p.1 p.2) k Q
def loop3 {σ τ υ : Type} (w0 : World) (X : Nat → Prop) (E' : σ → τ → υ → Env) (L' : σ → τ → υ → List Assn) (φ : σ → τ → υ → Prop) (m : σ → τ → υ → Nat) (k : Nat) (Q : Cont) : Cont :=
  .loop (σ × τ × υ) (fun p => E' p.1 p.2.1 p.2.2) (fun p w => φ p.1 p.2.1 p.2.2 ∧ St w0 X (L' p.1 p.2.1 p.2.2) w) (fun p => m p.1 p.2.1 p.2.2) k Q
theorem gloop2 {σ τ : Type} (ds : List Nat) (E' : σ → τ → Env → Env) (L' : σ → τ → List Assn) (φ : σ → τ → Prop) (m : σ → τ → Nat) (x : σ) (y : τ) {K : Env} {c : Code} (hk : evl E ds = some K) (hs : ESub E (E' x y K)) (hL : Ent L (L' x y)) (hφ : φ x y)
    (round : ∀ x y, φ x y → GC P n w0 X c (loop2 w0 X (fun x y => E' x y K) L' φ m (m x y) Q) (E' x y K) (L' x y)) : GC P n w0 X (.loop c) Q E L :=
  ⟨fun w hw => t_loop (fun p : σ × τ => E' p.1 p.2 K) (fun (p : σ × τ) w => φ p.1 p.2 ∧ St w0 X (L' p.1 p.2) w) (fun p : σ × τ => m p.1 p.2) (x, y) hs ⟨hφ, hL.go _ _ _ hw⟩ fun (p : σ × τ) w hj => (round p.1 p.2 hj.1).go w hj.2⟩
theorem gnl2 {σ τ : Type} {E' : σ → τ → Env} {L' : σ → τ → List Assn} {φ : σ → τ → Prop} {m : σ → τ → Nat} {k : Nat} (x : σ) (y : τ) (hs : ESub E (E' x y)) (hL : Ent L (L' x y)) (hφ : φ x y) (hm : m x y < k) : GN P n w0 X (loop2 w0 X E' L' φ m k Q) E L :=
  ⟨fun w hw => n_loop (x, y) hs ⟨hφ, hL.go _ _ _ hw⟩ hm⟩
theorem gloop3 {σ τ υ : Type} (ds : List Nat) (E' : σ → τ → υ → Env → Env) (L' : σ → τ → υ → List Assn) (φ : σ → τ → υ → Prop) (m : σ → τ → υ → Nat) (x : σ) (y : τ) (z : υ) {K : Env} {c : Code} (hk : evl E ds = some K) (hs : ESub E (E' x y z K)) (hL : Ent L (L' x y z)) (hφ : φ x y z)
    (round : ∀ x y z, φ x y z → GC P n w0 X c (loop3 w0 X (fun x y z => E' x y z K) L' φ m (m x y z) Q) (E' x y z K) (L' x y z)) : GC P n w0 X (.loop c) Q E L :=
  ⟨fun w hw => t_loop (fun p : σ × τ × υ => E' p.1 p.2.1 p.2.2 K) (fun (p : σ × τ × υ) w => φ p.1 p.2.1 p.2.2 ∧ St w0 X (L' p.1 p.2.1 p.2.2) w) (fun p : σ × τ × υ => m p.1 p.2.1 p.2.2) (x, y, z) hs ⟨hφ, hL.go _ _ _ hw⟩ fun (p : σ × τ × υ) w hj => (round p.1 p.2.1 p.2.2 hj.1).go w hj.2⟩
theorem gnl3 {σ τ υ : Type} {E' : σ → τ → υ → Env} {L' : σ → τ → υ → List Assn} {φ : σ → τ → υ → Prop} {m : σ → τ → υ → Nat} {k : Nat} (x : σ) (y : τ) (z : υ) (hs : ESub E (E' x y z)) (hL : Ent L (L' x y z)) (hφ : φ x y z) (hm : m x y z < k) : GN P n w0 X (loop3 w0 X E' L' φ m k Q) E L :=
  ⟨fun w hw => n_loop (x, y, z) hs ⟨hφ, hL.go _ _ _ hw⟩ hm⟩
/-- ways meet -/
theorem gcut {σ : Type} (ds : List Nat) (E' : σ → Env → Env) (L' : σ → List Assn) (φ : σ → Prop) {K : Env} {x y : Code} (hk : evl E ds = some K) (h : GC P n w0 X x (.cut σ (fun x => E' x K) (fun x w => φ x ∧ St w0 X (L' x) w) Q) E L)
    (k : ∀ s, φ s → GC P n w0 X y Q (E' s K) (L' s)) : GC P n w0 X (.seq x y) Q E L :=
  ⟨fun w hw => t_seq_cut (fun x => E' x K) (fun x w => φ x ∧ St w0 X (L' x) w) (h.go w hw) fun s w hj => (k s hj.1).go w hj.2⟩
theorem gnc {σ : Type} {E' : σ → Env} {L' : σ → List Assn} {φ : σ → Prop} (x : σ) (hs : ESub E (E' x)) (hL : Ent L (L' x)) (hφ : φ x) : GN P n w0 X (.cut σ E' (fun x w => φ x ∧ St w0 X (L' x) w) Q) E L :=
  ⟨fun w hw => n_cut x hs ⟨hφ, hL.go _ _ _ hw⟩⟩
theorem gsub {c : Code} (ds : List Nat) {K : Env} (hk : evl E ds = some K) (hs : ESub E K) (h : GC P n w0 X c Q K L) : GC P n w0 X c Q E L := ⟨fun w hw => t_sub hs (h.go w hw)⟩
theorem gent {c : Code} [h' : Ent L L'] (h : GC P n w0 X c Q E L') : GC P n w0 X c Q E L := ⟨fun w hw => h.go w (h'.go _ _ _ hw)⟩
end

/-! scopes: one label, two labels -/
structure GJ (P : Program) (n : Nat) (w0 : World) (X : Nat → Prop) (l : Nat) (Q : Cont) (E : Env) (L : List Assn) : Prop where
  go : ∀ w, St w0 X L w → GT P n l Q E w
section
variable {P : Program} {n : Nat} {w0 : World} {X : Nat → Prop} {Q : Cont} {E : Env} {L L' : List Assn}
theorem ggoto {l : Nat} (h : GJ P n w0 X l Q E L) : GC P n w0 X (.goto l) Q E L := ⟨fun w hw => t_goto (h.go w hw)⟩
theorem gjs {l : Nat} {y : Code} (h : GJ P n w0 X l Q E L) : GJ P n w0 X l (.seq y Q) E L := ⟨fun w hw => j_then (h.go w hw)⟩
theorem gjb {l id : Nat} (h : GJ P n w0 X l Q E L) : GJ P n w0 X l (.blk id Q) E L := ⟨fun w hw => j_block (h.go w hw)⟩
theorem gjl {l : Nat} {σ : Type} {E' : σ → Env} {J : σ → World → Prop} {m : σ → Nat} {k : Nat} (h : GJ P n w0 X l Q E L) : GJ P n w0 X l (.loop σ E' J m k Q) E L := ⟨fun w hw => j_loop (h.go w hw)⟩
theorem gjl2 {l : Nat} {σ τ : Type} {E' : σ → τ → Env} {L' : σ → τ → List Assn} {φ : σ → τ → Prop} {m : σ → τ → Nat} {k : Nat} (h : GJ P n w0 X l Q E L) : GJ P n w0 X l (loop2 w0 X E' L' φ m k Q) E L := gjl h
theorem gjl3 {l : Nat} {σ τ υ : Type} {E' : σ → τ → υ → Env} {L' : σ → τ → υ → List Assn} {φ : σ → τ → υ → Prop} {m : σ → τ → υ → Nat} {k : Nat} (h : GJ P n w0 X l Q E L) : GJ P n w0 X l (loop3 w0 X E' L' φ m k Q) E L := gjl h
theorem gjc {l : Nat} {σ : Type} {E' : σ → Env} {J : σ → World → Prop} (h : GJ P n w0 X l Q E L) : GJ P n w0 X l (.cut σ E' J Q) E L := ⟨fun w hw => j_cut (h.go w hw)⟩
def scope1 {σ : Type} (w0 : World) (X : Nat → Prop) (l0 : Nat) (E' : σ → Env) (L' : σ → List Assn) (φ : σ → Prop) (m : σ → Nat) (s : Nat) (Q : Cont) : Cont :=
  .scope σ (fun _ x => E' x) (fun l x w => l = l0 ∧ φ x ∧ St w0 X (L' x) w) (fun _ => m) s Q
theorem scope_mono {σ : Type} {E' : Nat → σ → Env} {J : Nat → σ → World → Prop} {m : Nat → σ → Nat} {k k' : Nat} {c : Code} {w : World} (hk : k ≤ k') (h : T P n c (.scope σ E' J m k Q) E w) : T P n c (.scope σ E' J m k' Q) E w :=
  ⟨fun a ha => wp_mono (h.go a ha) fun e a w he => by
    cases e <;> first | exact he | skip
    obtain ⟨x, h1, h2, h3⟩ := he
    exact ⟨x, h1, h2, Nat.lt_of_lt_of_le h3 hk⟩⟩
theorem gscope1 {σ : Type} (l0 : Nat) (ds : List Nat) (E' : σ → Env → Env) (L' : σ → List Assn) (φ : σ → Prop) (m : σ → Nat) (s : Nat) {K : Env} {c y : Code} (hk : evl E ds = some K) (hf : findLabel c l0 = some (.seq .skip y))
    (first : (∀ {E1 : Env} {L1 : List Assn} (x : σ), ESub E1 (E' x K) → Ent L1 (L' x) → φ x → m x < s → GC P n w0 X (.label l0) (.seq y (scope1 w0 X l0 (fun x => E' x K) L' φ m s Q)) E1 L1) → GC P n w0 X c (scope1 w0 X l0 (fun x => E' x K) L' φ m s Q) E L)
    (pass : ∀ x, φ x → GC P n w0 X y (scope1 w0 X l0 (fun x => E' x K) L' φ m (m x) Q) (E' x K) (L' x)) : GC P n w0 X (.scope c) Q E L :=
  ⟨fun w hw => t_scope (fun _ x => E' x K) (fun l x w => l = l0 ∧ φ x ∧ St w0 X (L' x) w) (fun _ => m) s
    ((first fun x hs hL hφ hm => ⟨fun w hw => t_label (n_then (scope_mono (Nat.le_of_lt hm) (t_sub hs ((pass x hφ).go w (hL.go _ _ _ hw)))))⟩).go w hw)
    fun l x w ⟨e, hφ, hw⟩ => ⟨_, e ▸ hf, t_seq (t_skip (n_then ((pass x hφ).go w hw)))⟩⟩
theorem gj1 {σ : Type} {l0 s : Nat} {E' : σ → Env} {L' : σ → List Assn} {φ : σ → Prop} {m : σ → Nat} (x : σ) (hs : ESub E (E' x)) (hL : Ent L (L' x)) (hφ : φ x) (hm : m x < s) : GJ P n w0 X l0 (scope1 w0 X l0 E' L' φ m s Q) E L :=
  ⟨fun w hw => j_scope x hs ⟨rfl, hφ, hL.go _ _ _ hw⟩ hm⟩
theorem gns1 {σ : Type} {l0 s : Nat} {E' : σ → Env} {L' : σ → List Assn} {φ : σ → Prop} {m : σ → Nat} (h : GN P n w0 X Q E L) : GN P n w0 X (scope1 w0 X l0 E' L' φ m s Q) E L := ⟨fun w hw => n_scope (h.go w hw)⟩
theorem grs1 {σ : Type} {l0 s : Nat} {E' : σ → Env} {L' : σ → List Assn} {φ : σ → Prop} {m : σ → Nat} (h : GR P n w0 X Q E L) : GR P n w0 X (scope1 w0 X l0 E' L' φ m s Q) E L := ⟨fun w hw => r_scope (h.go w hw)⟩
theorem gxs1 {σ : Type} {l0 s id : Nat} {E' : σ → Env} {L' : σ → List Assn} {φ : σ → Prop} {m : σ → Nat} (h : GX P n w0 X id Q E L) : GX P n w0 X id (scope1 w0 X l0 E' L' φ m s Q) E L := ⟨fun w hw => x_scope (h.go w hw)⟩
def either {σ τ α : Type} (f : σ → α) (g : τ → α) : σ ⊕ τ → α
  | .inl x => f x
  | .inr y => g y
def scope2 {σ τ : Type} (w0 : World) (X : Nat → Prop) (l0 l1 : Nat) (E0 : σ → Env) (E1 : τ → Env) (L0 : σ → List Assn) (L1 : τ → List Assn) (φ0 : σ → Prop) (φ1 : τ → Prop) (m0 : σ → Nat) (m1 : τ → Nat) (s : Nat) (Q : Cont) : Cont :=
  .scope (σ ⊕ τ) (fun _ => either E0 E1) (fun l x w => either (fun x => l = l0 ∧ φ0 x ∧ St w0 X (L0 x) w) (fun y => l = l1 ∧ φ1 y ∧ St w0 X (L1 y) w) x) (fun _ => either m0 m1) s Q
theorem gscope2 {σ τ : Type} (l0 l1 : Nat) (ds : List Nat) (E0 : σ → Env → Env) (E1 : τ → Env → Env) (L0 : σ → List Assn) (L1 : τ → List Assn) (φ0 : σ → Prop) (φ1 : τ → Prop) (m0 : σ → Nat) (m1 : τ → Nat) (s : Nat) {K : Env} {c y0 y1 : Code} (hk : evl E ds = some K) (hf0 : findLabel c l0 = some (.seq .skip y0)) (hf1 : findLabel c l1 = some (.seq .skip y1))
    (first : (∀ {E' : Env} {L' : List Assn} (x : σ), ESub E' (E0 x K) → Ent L' (L0 x) → φ0 x → m0 x < s → GC P n w0 X (.label l0) (.seq y0 (scope2 w0 X l0 l1 (fun x => E0 x K) (fun x => E1 x K) L0 L1 φ0 φ1 m0 m1 s Q)) E' L') → GC P n w0 X c (scope2 w0 X l0 l1 (fun x => E0 x K) (fun x => E1 x K) L0 L1 φ0 φ1 m0 m1 s Q) E L)
    (pass0 : ∀ x, φ0 x → GC P n w0 X y0 (scope2 w0 X l0 l1 (fun x => E0 x K) (fun x => E1 x K) L0 L1 φ0 φ1 m0 m1 (m0 x) Q) (E0 x K) (L0 x))
    (pass1 : ∀ x, φ1 x → GC P n w0 X y1 (scope2 w0 X l0 l1 (fun x => E0 x K) (fun x => E1 x K) L0 L1 φ0 φ1 m0 m1 (m1 x) Q) (E1 x K) (L1 x)) : GC P n w0 X (.scope c) Q E L :=
  ⟨fun w hw => t_scope (fun _ => either (fun x => E0 x K) (fun x => E1 x K)) (fun l x w => either (fun x => l = l0 ∧ φ0 x ∧ St w0 X (L0 x) w) (fun y => l = l1 ∧ φ1 y ∧ St w0 X (L1 y) w) x) (fun _ => either m0 m1) s
    ((first fun x hs hL hφ hm => ⟨fun w hw => t_label (n_then (scope_mono (Nat.le_of_lt hm) (t_sub hs ((pass0 x hφ).go w (hL.go _ _ _ hw)))))⟩).go w hw)
    fun l x w hj => by
      cases x with
      | inl x => obtain ⟨rfl, hφ, hw⟩ := hj; exact ⟨_, hf0, t_seq (t_skip (n_then ((pass0 x hφ).go w hw)))⟩
      | inr x => obtain ⟨rfl, hφ, hw⟩ := hj; exact ⟨_, hf1, t_seq (t_skip (n_then ((pass1 x hφ).go w hw)))⟩⟩
section
variable {σ τ : Type} {l0 l1 s : Nat} {E0 : σ → Env} {E1 : τ → Env} {L0 : σ → List Assn} {L1 : τ → List Assn} {φ0 : σ → Prop} {φ1 : τ → Prop} {m0 : σ → Nat} {m1 : τ → Nat}
theorem gj20 (x : σ) (hs : ESub E (E0 x)) (hL : Ent L (L0 x)) (hφ : φ0 x) (hm : m0 x < s) : GJ P n w0 X l0 (scope2 w0 X l0 l1 E0 E1 L0 L1 φ0 φ1 m0 m1 s Q) E L := ⟨fun w hw => j_scope (.inl x) hs ⟨rfl, hφ, hL.go _ _ _ hw⟩ hm⟩
theorem gj21 (x : τ) (hs : ESub E (E1 x)) (hL : Ent L (L1 x)) (hφ : φ1 x) (hm : m1 x < s) : GJ P n w0 X l1 (scope2 w0 X l0 l1 E0 E1 L0 L1 φ0 φ1 m0 m1 s Q) E L := ⟨fun w hw => j_scope (.inr x) hs ⟨rfl, hφ, hL.go _ _ _ hw⟩ hm⟩
theorem gns2 (h : GN P n w0 X Q E L) : GN P n w0 X (scope2 w0 X l0 l1 E0 E1 L0 L1 φ0 φ1 m0 m1 s Q) E L := ⟨fun w hw => n_scope (h.go w hw)⟩
theorem grs2 (h : GR P n w0 X Q E L) : GR P n w0 X (scope2 w0 X l0 l1 E0 E1 L0 L1 φ0 φ1 m0 m1 s Q) E L := ⟨fun w hw => r_scope (h.go w hw)⟩
theorem gxs2 {id : Nat} (h : GX P n w0 X id Q E L) : GX P n w0 X id (scope2 w0 X l0 l1 E0 E1 L0 L1 φ0 φ1 m0 m1 s Q) E L := ⟨fun w hw => x_scope (h.go w hw)⟩
end
end

/-! entering, leaving -/
def envO : List Nat → List Value → Option Env
  | _, [] => some []
  | [], _ :: _ => none
  | i :: is, v :: r => match envO is r with | some t => some ((i, v) :: t) | none => none
theorem envO_eq : ∀ {k i : Nat} {vs : List Value} {E : Env}, envO (List.range' i k) vs = some E → envOf i vs = E
  | 0, _, [], E, h => by simp [envO] at h; subst h; rfl
  | k + 1, _, [], E, h => by simp [envO] at h; subst h; rfl
  | 0, _, _ :: _, E, h => by simp [envO] at h
  | k + 1, i, v :: r, E, h => by
    rw [List.range'_succ] at h
    simp only [envO] at h
    split at h
    · rename_i t ht; cases h; simp [envOf, envO_eq ht]
    · cases h
/-- what a function answers: X: the old blocks that it may turn -/
def Ct (P : Program) (f : FuncId) (vs : List Value) (w0 : World) (X : Nat → Prop) {ρ : Type} (val : ρ → Value) (M : ρ → List Assn) (φ : ρ → Prop) : Prop := Calls P f vs.toArray w0 (Ret w0 X val M fun r _ => φ r)
theorem genter {P : Program} {f : FuncId} {fn : Func} {c : Code} {vs : List Value} {w0 : World} {X : Nat → Prop} {L : List Assn} {ρ : Type} {val : ρ → Value} {M : ρ → List Assn} {φ : ρ → Prop} {E : Env} (n : Nat) (hst : St w0 X L w0) (hf : P.funcs[f]? = some fn) (hb : fn.body = some c) (hn : fn.ntmps = n) (hle : Nat.ble vs.length n = true) (he : envO [0, 1, 2, 3, 4, 5, 6, 7, 8, 9, 10, 11] vs = some E)
    (h : GC P n w0 X c (.body fn (Ret w0 X val M fun r _ => φ r)) E L) : Ct P f vs w0 X val M φ :=
  calls_of_t n hf hb hn hle (by rw [envO_eq (k := 12) he]; exact h.go w0 hst)
/-- what the variables of the results hold -/
structure RV (P : Program) (w0 : World) (X : Nat → Prop) (E : Env) (L : List Assn) (rs : List ResultVar) (vs : List Value) : Prop where
  go : ∀ w, St w0 X L w → ResVs P E w rs vs
section
variable {P : Program} {n : Nat} {w0 : World} {X : Nat → Prop} {Q : Cont} {E : Env} {L : List Assn} {rs : List ResultVar} {vs : List Value} {v : Value}
structure Lv (P : Program) (w0 : World) (X : Nat → Prop) (L : List Assn) (t : TypeId) (p : Addr) (u : Value) : Prop where
  go : ∀ w, St w0 X L w → (loadVar t p).run P w = .ok u w
theorem rv0 : RV P w0 X E L [] [] := ⟨fun _ _ => trivial⟩
theorem rvT {t : Nat} (h : eget E t = some v) (k : RV P w0 X E L rs vs) : RV P w0 X E L (.tmp t :: rs) (v :: vs) := ⟨fun w hw => ⟨h, k.go w hw⟩⟩
theorem rvC {a : Nat} {t : TypeId} {p : Addr} (h : eget E a = some (.pointer (some p))) (hl : Lv P w0 X L t p v) (k : RV P w0 X E L rs vs) : RV P w0 X E L (.cell a t :: rs) (v :: vs) := ⟨fun w hw => ⟨⟨p, h, hl.go w hw⟩, k.go w hw⟩⟩
theorem gr {fn : Func} {ρ : Type} {val : ρ → Value} {M : ρ → List Assn} {φ : ρ → Prop} (hr : fn.results = rs.toArray) (hv : RV P w0 X E L rs vs) (x : ρ) (he : resVal vs = val x) (hL : Ent L (M x)) (hφ : φ x) : GR P n w0 X (.body fn (Ret w0 X val M fun r _ => φ r)) E L :=
  ⟨fun w hw => rt_body vs hr (hv.go w hw) ⟨x, by rw [he], hL.go _ _ _ hw, hφ⟩⟩
theorem gnb {fn : Func} {ρ : Type} {val : ρ → Value} {M : ρ → List Assn} {φ : ρ → Prop} (hr : fn.results = #[]) (x : ρ) (he : .tuple #[] = val x) (hL : Ent L (M x)) (hφ : φ x) : GN P n w0 X (.body fn (Ret w0 X val M fun r _ => φ r)) E L :=
  ⟨fun w hw => n_body hr ⟨x, by rw [he], hL.go _ _ _ hw, hφ⟩⟩
end
end Go.Proofs.YtalainpmlonahaaDoor
end
section
/-!
  THE SECOND ENGINE, third part: what operations yield, reckoned. No program in sight.
-/
set_option linter.unusedVariables false
namespace Go.Proofs.YtalainpmlonahaaDoor
open Go.RowKit

def kbeq : IntKind → IntKind → Bool
  | .i8, .i8 | .i16, .i16 | .i32, .i32 | .i64, .i64 | .u8, .u8 | .u16, .u16 | .u32, .u32 | .u64, .u64 => true
  | _, _ => false
theorem kbeq_eq {a b : IntKind} (h : kbeq a b = true) : a = b := by cases a <;> cases b <;> first | rfl | cases h
def lo : IntKind → Int
  | .i8 => -128 | .i16 => -32768 | .i32 => -2147483648 | .i64 => -9223372036854775808 | _ => 0
/-- in the kind's range -/
@[reducible] def InR : IntKind → Int → Prop
  | .i8, x => -128 ≤ x ∧ x ≤ 127
  | .i16, x => -32768 ≤ x ∧ x ≤ 32767
  | .i32, x => -2147483648 ≤ x ∧ x ≤ 2147483647
  | .i64, x => -9223372036854775808 ≤ x ∧ x ≤ 9223372036854775807
  | .u8, x => 0 ≤ x ∧ x ≤ 255
  | .u16, x => 0 ≤ x ∧ x ≤ 65535
  | .u32, x => 0 ≤ x ∧ x ≤ 4294967295
  | .u64, x => 0 ≤ x ∧ x ≤ 18446744073709551615
theorem InR.wrap {k : IntKind} {x : Int} (h : InR k x) : k.wrap x = x := by
  cases k <;> simp only [InR] at h <;> simp only [IntKind.wrap, IntKind.signed, IntKind.bits] <;> (try simp) <;> omega
def cmpV (op : BinOp) (i j : Int) : Option Value :=
  match op with
  | .lss => some (.bool (decide (i < j)))
  | .leq => some (.bool (decide (i ≤ j)))
  | .gtr => some (.bool (decide (j < i)))
  | .geq => some (.bool (decide (j ≤ i)))
  | .eql => some (.bool (decide (i = j)))
  | .neq => some (.bool (!decide (i = j)))
  | _ => none
def bitV (op : BinOp) (k : IntKind) (i j : Int) : Option Value :=
  match op with
  | .and => some (.int k (bits .and k i j))
  | .or => some (.int k (bits .or k i j))
  | .xor => some (.int k (bits .xor k i j))
  | .andNot => some (.int k (bits .andNot k i j))
  | _ => none
def orV (a b : Option Value) : Option Value := match a with | some v => some v | none => b
def binV (P : Program) (op : BinOp) (t : TypeId) : Value → Value → Option Value
  | .int k i, .int k' j => bif kbeq k k' then orV (cmpV op i j) (bitV op k i j) else none
  | .pointer p, .pointer none => bif ptrB P t then (match op with | .eql => some (.bool p.isNone) | .neq => some (.bool (!p.isNone)) | _ => none) else none
  | .slice A _ _, .slice none 0 0 => match P.underlying t with | some (.slice _) => (match op with | .eql => some (.bool A.isNone) | .neq => some (.bool (!A.isNone)) | _ => none) | _ => none
  | .bool a, .bool b => match P.underlying t with | some .bool => (match op with | .eql => some (.bool (a == b)) | .neq => some (.bool (!(a == b))) | _ => none) | _ => none
  | _, _ => none
def fldB (P : Program) (s i : Nat) : Option Nat :=
  match P.underlying s with
  | some (.struct fs) => (match fs[i]? with | some f => (match szB P f.type with | some (_ + 1) => litO f.offset | _ => none) | none => none)
  | _ => none
def nthV : List Value → Nat → Option Value
  | [], _ => none
  | v :: _, 0 => some v
  | _ :: r, i + 1 => nthV r i
theorem nthV_eq : ∀ (l : List Value) (i : Nat), nthV l i = l[i]?
  | [], i => by simp [nthV]
  | v :: l, 0 => by simp [nthV]
  | v :: l, i + 1 => by simp [nthV, nthV_eq l i]
/-- what only computes: the value -/
def pv (P : Program) (E : Env) : Op → Option Value
  | .move x => eev E x
  | .assign x => eev E x
  | .nilCheck x => match eev E x with | some (.pointer (some p)) => some (.pointer (some p)) | _ => none
  | .extract x i => match eev E x with | some (.tuple vs) => nthV vs.toList i | _ => none
  | .pick c x y => match eev E c with | some (.bool true) => eev E x | some (.bool false) => eev E y | _ => none
  | .fieldAddr s x i => match eev E x with
    | some (.pointer (some ⟨g, o, none⟩)) => (match fldB P s i with | some off => (match litO (o + off) with | some m => some (.pointer (some ⟨g, m, none⟩)) | none => none) | none => none)
    | _ => none
  | .unOp .not _ x => match eev E x with | some (.bool b) => some (.bool (!b)) | _ => none
  | .binOp op t x y _ => match eev E x, eev E y with | some a, some b => binV P op t a b | _, _ => none
  | .call ⟨.builtin .len, args, ats⟩ => match args.toList, ats.toList with
    | [x], [t] => (match eev E x, P.underlying t with | some (.slice _ m _), some (.slice _) => some (.int .i64 m) | _, _ => none)
    | _, _ => none
  | .call ⟨.builtin .cap, args, ats⟩ => match args.toList, ats.toList with
    | [x], [t] => (match eev E x, P.underlying t with | some (.slice _ _ c), some (.slice _) => some (.int .i64 c) | _, _ => none)
    | _, _ => none
  | .sliceToArrayPointer t x => match eev E x, P.underlying t with | some (.slice A n _), some (.array m _) => bif Nat.ble m n then some (.pointer A) else none | _, _ => none
  | _ => none
section
variable {P : Program} {n : Nat} {E : Env} {v : Value} {d : Nat} {ty : TypeId} {pos : String} {aft : Array Edge} {op : Op}
theorem guard_slice (op : BinOp) (t : TypeId) (x y : Operand) (A B : Option Addr) (l c l' c' : Nat) (w : World) : (eqGuard op t x y (.slice A l c) (.slice B l' c')).run P w = .ok () w := by cases op <;> rfl
theorem guard_bool (op : BinOp) (t : TypeId) (x y : Operand) (a b : Bool) (w : World) : (eqGuard op t x y (.bool a) (.bool b)).run P w = .ok () w := by cases op <;> rfl
theorem y_bin2 {o : BinOp} {x y : Operand} {a b : Value} {t yt : TypeId} (hx : eev E x = some a) (hy : eev E y = some b) (hg : ∀ w, (eqGuard o t x y a b).run P w = .ok () w) (hr : ∀ w, (binOp o t a b).run P w = .ok v w) :
    Yld P n ⟨some d, .binOp o t x y yt, ty, pos, aft, none⟩ E v := ⟨fun a' w ha => by
  simp only [execOp, ha.ev hx, ha.ev hy, Sem.run_bind, hg, Result.andThen_ok, hr]; rfl⟩
theorem run_eqS {t : TypeId} {A B : Option Addr} {l c l' c' : Nat} {r : Bool} {w : World} (h : (Op.equal t (.slice A l c) (.slice B l' c')).run P w = .ok r w) : (binOp .eql t (.slice A l c) (.slice B l' c')).run P w = .ok (.bool r) w ∧ (binOp .neq t (.slice A l c) (.slice B l' c')).run P w = .ok (.bool (!r)) w := by
  constructor <;> simp [binOp, h]
theorem run_eqBo {t : TypeId} {a b : Bool} {r : Bool} {w : World} (h : (Op.equal t (.bool a) (.bool b)).run P w = .ok r w) : (binOp .eql t (.bool a) (.bool b)).run P w = .ok (.bool r) w ∧ (binOp .neq t (.bool a) (.bool b)).run P w = .ok (.bool (!r)) w := by
  constructor <;> simp [binOp, h]
theorem run_equalIn_bool {t : TypeId} {a b : Bool} {w : World} (m : Nat) (ht : P.underlying t = some .bool) : (Op.equalIn (m + 1) t (.bool a) (.bool b)).run P w = .ok (a == b) w := by
  simp only [Op.equalIn, Sem.run_bind, run_underlying ht, Result.andThen_ok]; rfl
theorem run_equal_bool {t : TypeId} {a b : Bool} {w : World} (ht : P.underlying t = some .bool) : (Op.equal t (.bool a) (.bool b)).run P w = .ok (a == b) w := run_equalIn_bool 9999 ht
theorem binV_ok {o : BinOp} {x y : Operand} {a b : Value} {t yt : TypeId} (hx : eev E x = some a) (hy : eev E y = some b) (h : binV P o t a b = some v) : Yld P n ⟨some d, .binOp o t x y yt, ty, pos, aft, none⟩ E v := by
  unfold binV at h
  split at h
  · rename_i k i k' j
    cases hk : kbeq k k' <;> rw [hk] at h
    · simp at h
    obtain rfl := kbeq_eq hk
    simp only [cond_true] at h
    unfold orV at h
    split at h
    · rename_i u hu
      cases h
      unfold cmpV at hu
      split at hu <;> cases hu
      · exact y_lss hx hy
      · exact y_leq hx hy
      · exact y_gtr hx hy
      · exact y_geq hx hy
      · exact y_eql hx hy
      · have := y_neq (P := P) (n := n) (d := d) (ty := ty) (pos := pos) (aft := aft) (t := t) (yt := yt) hx hy
        have e : (!decide (i = j)) = decide (i ≠ j) := by by_cases h : i = j <;> simp [h]
        rw [e]; exact this
    · unfold bitV at h
      split at h <;> cases h
      · exact y_and hx hy rfl
      · exact y_or hx hy rfl
      · exact y_xor hx hy rfl
      · exact y_andNot hx hy rfl
  · rename_i p
    cases hp : ptrB P t <;> rw [hp] at h
    · simp at h
    simp only [cond_true] at h
    split at h <;> cases h
    · exact y_eqlP hx hy hp
    · exact y_neqP hx hy hp
  · rename_i A l c
    split at h
    · rename_i e ht
      have hr : ∀ w, (Op.equal t (.slice A l c) (.slice none 0 0)).run P w = .ok A.isNone w := fun w => run_equal_slice_nil w t e A l c ht
      split at h <;> cases h
      · exact y_bin2 hx hy (guard_slice _ _ _ _ _ _ _ _ _ _) fun w => (run_eqS (hr w)).1
      · exact y_bin2 hx hy (guard_slice _ _ _ _ _ _ _ _ _ _) fun w => (run_eqS (hr w)).2
    · cases h
  · rename_i a b
    split at h
    · rename_i ht
      split at h <;> cases h
      · exact y_bin2 hx hy (guard_bool _ _ _ _ _ _) fun w => (run_eqBo (run_equal_bool ht)).1
      · exact y_bin2 hx hy (guard_bool _ _ _ _ _ _) fun w => (run_eqBo (run_equal_bool ht)).2
    · cases h
  · cases h
theorem pv_light {op : Op} (h : pv P E op = some v) : isLight op = true := by
  unfold pv at h
  split at h <;> first | rfl | cases h
theorem fldB_ok {s i off : Nat} (h : fldB P s i = some off) : ∃ fs f sz, P.underlying s = some (.struct fs) ∧ fs[i]? = some f ∧ litO f.offset = some off ∧ szB P f.type = some sz ∧ Nat.beq sz 0 = false := by
  unfold fldB at h
  split at h
  · rename_i fs hs
    split at h
    · rename_i f hf
      split at h
      · rename_i m hm; exact ⟨fs, f, m + 1, hs, hf, h, hm, rfl⟩
      · cases h
    · cases h
  · cases h
theorem y_field {x : Operand} {s i off : Nat} {p : Addr} (hx : eev E x = some (.pointer (some p))) (h : fldB P s i = some off) : Yld P n ⟨some d, .fieldAddr s x i, ty, pos, aft, none⟩ E (.pointer (some (p.add off))) := by
  obtain ⟨fs, f, sz, h1, h2, h3, h4, h5⟩ := fldB_ok h
  exact y_fieldAddr hx h1 h2 h3 h4 h5
theorem pv_ok (h : pv P E op = some v) : Yld P n ⟨some d, op, ty, pos, aft, none⟩ E v := by
  unfold pv at h
  split at h
  · exact y_move h
  · exact y_assign h
  · split at h <;> cases h
    rename_i hx; exact y_nilCheck hx
  · split at h <;> try (cases h; done)
    rename_i vs hx; exact y_extract hx (by rw [← Array.getElem?_toList, ← nthV_eq]; exact h)
  · split at h
    · rename_i hc; exact y_pick_t hc h
    · rename_i hc; exact y_pick_f hc h
    · cases h
  · split at h <;> try (cases h; done)
    rename_i g o hx
    split at h <;> try (cases h; done)
    rename_i off hf
    split at h <;> try (cases h; done)
    rename_i m hm
    cases h
    have := y_field (n := n) (d := d) (ty := ty) (pos := pos) (aft := aft) hx hf
    rwa [Addr.add_lit, litO_eq hm] at this
  · split at h <;> cases h
    rename_i hx; exact y_not hx
  · split at h <;> try (cases h; done)
    rename_i a b hx hy; exact binV_ok hx hy h
  · split at h <;> try (cases h; done)
    rename_i args ats _ _ x t h1 h2
    obtain ⟨al⟩ := args; obtain ⟨tl⟩ := ats
    replace h1 : al = [x] := h1
    replace h2 : tl = [t] := h2
    subst h1 h2
    split at h <;> cases h
    rename_i hx ht; exact y_len hx ht
  · split at h <;> try (cases h; done)
    rename_i args ats _ _ x t h1 h2
    obtain ⟨al⟩ := args; obtain ⟨tl⟩ := ats
    replace h1 : al = [x] := h1
    replace h2 : tl = [t] := h2
    subst h1 h2
    split at h <;> cases h
    rename_i hx ht; exact y_cap hx ht
  · split at h <;> try (cases h; done)
    rename_i A k c m e hx ht
    cases hb : Nat.ble m k <;> rw [hb] at h
    · simp at h
    simp at h; subst h
    exact y_sliceToArray hx ht (bleT hb)
  · cases h
/-- with something to be shown -/
def arV (op : BinOp) (k : IntKind) (i j : Int) : Option (Value × Prop) :=
  match op with
  | .add => some (.int k (i + j), InR k (i + j))
  | .sub => some (.int k (i - j), InR k (i - j))
  | .mul => some (.int k (i * j), InR k (i * j))
  | .quo => some (.int k (i / j), 0 ≤ i ∧ 0 < j ∧ InR k i)
  | .rem => some (.int k (i % j), 0 ≤ i ∧ 0 < j)
  | _ => none
def shV (op : BinOp) (k : IntKind) (i : Int) (m : Nat) : Option (Value × Prop) :=
  match op with
  | .shr => bif Nat.ble m k.bits then some (.int k (i / 2 ^ m), 0 ≤ i) else none
  | .shl => bif Nat.ble m k.bits then some (.int k (i * 2 ^ m), InR k (i * 2 ^ m)) else none
  | _ => none
def psh (E : Env) : Op → Option (Value × Prop)
  | .binOp op _ x y _ => match eev E x, eev E y with
    | some (.int k i), some (.int _ (.ofNat m)) => shV op k i m
    | _, _ => none
  | _ => none
def po (P : Program) (E : Env) : Op → Option (Value × Prop)
  | .binOp op _ x y _ => match eev E x, eev E y with
    | some (.int k i), some (.int k' j) => bif kbeq k k' then arV op k i j else none
    | _, _ => none
  | .convert s t x => match eev E x, P.underlying s, P.underlying t with
    | some (.int _ i), some _, some (.int k) => some (.int k i, InR k i)
    | _, _, _ => none
  | _ => none
theorem quo_ok {k : IntKind} {i j : Int} (h0 : 0 ≤ i) (h1 : 0 < j) (hi : InR k i) : k.wrap (i.tdiv j) = i / j := by
  have e : i.tdiv j = i / j := Int.tdiv_eq_ediv_of_nonneg h0
  rw [e]
  have h2 : 0 ≤ i / j := Int.ediv_nonneg h0 (by omega)
  have h3 : i / j ≤ i := Int.ediv_le_self _ h0
  refine InR.wrap ?_
  cases k <;> simp only [InR] at hi ⊢ <;> omega
theorem arV_ok {o : BinOp} {x y : Operand} {k : IntKind} {i j : Int} {t yt : TypeId} {φ : Prop} (hx : eev E x = some (.int k i)) (hy : eev E y = some (.int k j)) (h : arV o k i j = some (v, φ)) (hφ : φ) : Yld P n ⟨some d, .binOp o t x y yt, ty, pos, aft, none⟩ E v := by
  unfold arV at h
  split at h <;> cases h
  · exact y_add hx hy (InR.wrap hφ)
  · exact y_sub hx hy (InR.wrap hφ)
  · exact y_mul hx hy (InR.wrap hφ)
  · obtain ⟨a, b, c⟩ := hφ
    exact y_bin hx hy (by rw [binOp_quo]; simp only [Op.intDiv]; rw [if_neg (by omega), quo_ok a b c])
  · obtain ⟨a, b⟩ := hφ
    exact y_bin hx hy (by rw [binOp_rem]; simp only [Op.intDiv]; rw [if_neg (by omega), Int.tmod_eq_emod_of_nonneg a])
theorem shV_ok {o : BinOp} {x y : Operand} {k k' : IntKind} {i : Int} {m : Nat} {t yt : TypeId} {φ : Prop} (hx : eev E x = some (.int k i)) (hy : eev E y = some (.int k' (.ofNat m))) (h : shV o k i m = some (v, φ)) (hφ : φ) : Yld P n ⟨some d, .binOp o t x y yt, ty, pos, aft, none⟩ E v := by
  unfold shV at h
  split at h
  · cases hb : Nat.ble m k.bits <;> rw [hb] at h <;> simp only [cond_true, cond_false] at h <;> cases h
    refine y_shr hx hy (Int.natCast_nonneg m) ?_
    have : min (Int.ofNat m).toNat k.bits = m := by have := bleT hb; simp; omega
    rw [this, Int.fdiv_eq_ediv_of_nonneg _ (by exact_mod_cast Nat.zero_le _)]
  · cases hb : Nat.ble m k.bits <;> rw [hb] at h <;> simp only [cond_true, cond_false] at h <;> cases h
    refine y_shl hx hy (Int.natCast_nonneg m) ?_
    have : min (Int.ofNat m).toNat k.bits = m := by have := bleT hb; simp; omega
    rw [this]; exact InR.wrap hφ
  · cases h
theorem po_light {op : Op} {φ : Prop} (h : po P E op = some (v, φ)) : isLight op = true := by
  unfold po at h
  split at h <;> first | rfl | cases h
theorem psh_light {op : Op} {φ : Prop} (h : psh E op = some (v, φ)) : isLight op = true := by
  unfold psh at h
  split at h <;> first | rfl | cases h
theorem psh_ok {φ : Prop} (h : psh E op = some (v, φ)) (hφ : φ) : Yld P n ⟨some d, op, ty, pos, aft, none⟩ E v := by
  unfold psh at h
  split at h
  · split at h
    · rename_i k i k' m hx hy; exact shV_ok hx hy h hφ
    · cases h
  · cases h
theorem po_ok {φ : Prop} (h : po P E op = some (v, φ)) (hφ : φ) : Yld P n ⟨some d, op, ty, pos, aft, none⟩ E v := by
  unfold po at h
  split at h
  · split at h
    · rename_i k i k' j hx hy
      cases hk : kbeq k k' <;> rw [hk] at h
      · simp at h
      obtain rfl := kbeq_eq hk
      exact arV_ok hx hy h hφ
    · cases h
  · split at h <;> cases h
    rename_i hx hs ht; exact y_conv hx (by rw [hs]; rfl) ht (InR.wrap hφ)
  · cases h
@[reducible] def InSh : IntKind → Int → Prop
  | .i8, j | .u8, j => 0 ≤ j ∧ j ≤ 8
  | .i16, j | .u16, j => 0 ≤ j ∧ j ≤ 16
  | .i32, j | .u32, j => 0 ≤ j ∧ j ≤ 32
  | .i64, j | .u64, j => 0 ≤ j ∧ j ≤ 64
theorem InSh.min {k : IntKind} {j : Int} (h : InSh k j) : 0 ≤ j ∧ min j.toNat k.bits = j.toNat := by
  cases k <;> simp only [InSh] at h <;> simp only [IntKind.bits] <;> omega
/-- shifted by what is no numeral -/
def psv (E : Env) : Op → Option (Value × Prop)
  | .binOp .shr _ x y _ => match eev E x, eev E y with
    | some (.int k i), some (.int _ j) => some (.int k (i / 2 ^ j.toNat), 0 ≤ i ∧ InSh k j)
    | _, _ => none
  | .binOp .shl _ x y _ => match eev E x, eev E y with
    | some (.int k i), some (.int _ j) => some (.int k (i * 2 ^ j.toNat), InR k (i * 2 ^ j.toNat) ∧ InSh k j)
    | _, _ => none
  | _ => none
theorem psv_light {op : Op} {φ : Prop} (h : psv E op = some (v, φ)) : isLight op = true := by
  unfold psv at h
  split at h <;> first | rfl | cases h
theorem psv_ok {φ : Prop} (h : psv E op = some (v, φ)) (hφ : φ) : Yld P n ⟨some d, op, ty, pos, aft, none⟩ E v := by
  unfold psv at h
  split at h
  · split at h <;> cases h
    rename_i hx hy
    obtain ⟨h0, h1⟩ := hφ
    refine y_shr hx hy h1.min.1 ?_
    rw [h1.min.2, Int.fdiv_eq_ediv_of_nonneg _ (by exact_mod_cast Nat.zero_le _)]
  · split at h <;> cases h
    rename_i hx hy
    obtain ⟨h0, h1⟩ := hφ
    refine y_shl hx hy h1.min.1 ?_
    rw [h1.min.2]; exact InR.wrap h0
  · cases h
/-- wrapped round -/
def pw (P : Program) (E : Env) : Op → Option Value
  | .binOp op _ x y _ => match eev E x, eev E y with
    | some (.int k i), some (.int k' j) => bif kbeq k k' then (match op with | .add => some (.int k (k.wrap (i + j))) | .sub => some (.int k (k.wrap (i - j))) | .mul => some (.int k (k.wrap (i * j))) | _ => none) else none
    | _, _ => none
  | .convert s t x => match eev E x, P.underlying s, P.underlying t with
    | some (.int _ i), some _, some (.int k) => some (.int k (k.wrap i))
    | _, _, _ => none
  | _ => none
theorem pw_light {op : Op} (h : pw P E op = some v) : isLight op = true := by
  unfold pw at h
  split at h <;> first | rfl | cases h
theorem pw_ok (h : pw P E op = some v) : Yld P n ⟨some d, op, ty, pos, aft, none⟩ E v := by
  unfold pw at h
  split at h
  · split at h <;> try (cases h; done)
    rename_i k i k' j hx hy
    cases hk : kbeq k k' <;> rw [hk] at h
    · simp at h
    obtain rfl := kbeq_eq hk
    simp only [cond_true] at h
    split at h <;> cases h
    · exact y_add hx hy rfl
    · exact y_sub hx hy rfl
    · exact y_mul hx hy rfl
  · split at h <;> cases h
    rename_i hx hs ht; exact y_conv hx (by rw [hs]; rfl) ht rfl
  · cases h
/-- the byte of a number -/
def u8 (z : Int) : UInt8 := UInt8.ofNat (z % 256).toNat
theorem u8_wrap (z : Int) : IntKind.u8.wrap z = ((u8 z).toNat : Int) := by
  rw [IntKind.wrap_u8]
  simp only [u8, UInt8.toNat_ofNat']
  have : 0 ≤ z % 256 ∧ z % 256 < 256 := by omega
  omega
end

section
variable {P : Program} {n : Nat} {w0 : World} {X : Nat → Prop} {Q : Cont} {E : Env} {L L' : List Assn} {s : Ms} {ops : Array Oper} {rest : List Oper} {v : Value}
variable {d : Nat} {ty : TypeId} {pos : String} {aft : Array Edge} {op : Op}
theorem gv (h : pv P E op = some v) (hd : Nat.blt d n = true) (k : GO P n w0 X (nextM s) ops rest Q ((d, v) :: E) L) : GO P n w0 X s ops (⟨some d, op, ty, pos, aft, none⟩ :: rest) Q E L := go_yld (pv_light h) (fun _ _ => pv_ok h) hd k
theorem gp {φ : Prop} (h : po P E op = some (v, φ)) (hφ : φ) (hd : Nat.blt d n = true) (k : GO P n w0 X (nextM s) ops rest Q ((d, v) :: E) L) : GO P n w0 X s ops (⟨some d, op, ty, pos, aft, none⟩ :: rest) Q E L := go_yld (po_light h) (fun _ _ => po_ok h hφ) hd k
theorem gsh {φ : Prop} (h : psh E op = some (v, φ)) (hφ : φ) (hd : Nat.blt d n = true) (k : GO P n w0 X (nextM s) ops rest Q ((d, v) :: E) L) : GO P n w0 X s ops (⟨some d, op, ty, pos, aft, none⟩ :: rest) Q E L := go_yld (psh_light h) (fun _ _ => psh_ok h hφ) hd k
theorem gsv {φ : Prop} (h : psv E op = some (v, φ)) (hφ : φ) (hd : Nat.blt d n = true) (k : GO P n w0 X (nextM s) ops rest Q ((d, v) :: E) L) : GO P n w0 X s ops (⟨some d, op, ty, pos, aft, none⟩ :: rest) Q E L := go_yld (psv_light h) (fun _ _ => psv_ok h hφ) hd k
theorem gw (h : pw P E op = some v) (hd : Nat.blt d n = true) (k : GO P n w0 X (nextM s) ops rest Q ((d, v) :: E) L) : GO P n w0 X s ops (⟨some d, op, ty, pos, aft, none⟩ :: rest) Q E L := go_yld (pw_light h) (fun _ _ => pw_ok h) hd k
/-- to a byte -/
theorem gb {x : Operand} {k' : IntKind} {i : Int} {t t' : TypeId} (hx : eev E x = some (.int k' i)) (hs : (P.underlying t).isSome = true) (ht : P.underlying t' = some (.int .u8)) (hd : Nat.blt d n = true)
    (k : GO P n w0 X (nextM s) ops rest Q ((d, .int .u8 ((u8 i).toNat : Int)) :: E) L) : GO P n w0 X s ops (⟨some d, .convert t t' x, ty, pos, aft, none⟩ :: rest) Q E L := go_yld rfl (fun _ _ => y_conv hx hs ht (u8_wrap i)) hd k
/-- by an own lemma -/
theorem gy (h : Yld P n ⟨some d, op, ty, pos, aft, none⟩ E v) (hl : isLight op = true) (hd : Nat.blt d n = true) (k : GO P n w0 X (nextM s) ops rest Q ((d, v) :: E) L) : GO P n w0 X s ops (⟨some d, op, ty, pos, aft, none⟩ :: rest) Q E L := go_yld hl (fun _ _ => h) hd k
end
end Go.Proofs.YtalainpmlonahaaDoor
end
section
/-!
  THE SECOND ENGINE, fourth part: memory, calls. No program in sight.
-/
set_option linter.unusedVariables false
namespace Go.Proofs.YtalainpmlonahaaDoor
open Go.RowKit

/-! facts as classes -/
class Ix (i : Int) (n : Nat) : Prop where
  h : 0 ≤ i ∧ i < n
/-- a cut: from l on, k of m, with the capacities before (c), c2, and behind (c') -/
class Cu (l : Int) (k m c c2 c' : Nat) : Prop where
  h : 0 ≤ l ∧ l.toNat + k ≤ m ∧ l.toNat + k ≤ c2 ∧ k ≤ c' ∧ c' ≤ c
class SzIs {G : Type} (R : Rep G) (sz : Nat) : Prop where
  h : R.sz = sz
class LenIs {G : Type} (gs : List G) (m : Nat) : Prop where
  h : gs.length = m
class NLe (a b : Nat) : Prop where
  h : a ≤ b
instance NLe.zero {b : Nat} : NLe 0 b := ⟨Nat.zero_le _⟩
instance (priority := low) NLe.one {a b : Nat} [h : NLe a b] : NLe (a + 1) (b + 1) := ⟨Nat.succ_le_succ h.h⟩
instance NLe.big {a b : Nat} [h : NLe a b] : NLe (a + 16) (b + 16) := ⟨Nat.add_le_add_right h.h 16⟩
/-- what a number's kind tells -/
class Rng (v : Value) (p : outParam Prop) : Prop where
  is : p
instance Rng.byte {x : UInt8} : Rng (.int .u8 (x.toNat : Int)) (0 ≤ (x.toNat : Int) ∧ (x.toNat : Int) ≤ 255) := ⟨by have := x.toNat_lt; omega⟩
instance (priority := low) Rng.any {v : Value} : Rng v True := ⟨trivial⟩
/-- cells that are one each -/
class OneV (v : Value) : Prop where
  h : v.oneCell' = true
instance {k : IntKind} {i : Int} : OneV (.int k i) := ⟨rfl⟩
instance {b : Bool} : OneV (.bool b) := ⟨rfl⟩
instance {A : Option Addr} {n c : Nat} : OneV (.slice A n c) := ⟨rfl⟩
instance {p : Option Addr} : OneV (.pointer p) := ⟨rfl⟩
instance {r : Option Nat} : OneV (.map r) := ⟨rfl⟩
instance {f : Fn} {a b : Array Value} : OneV (.func f a b) := ⟨rfl⟩
class OkS (s : List Cs) : Prop where
  h : okS s ∧ oneB (flat s) = true
theorem oneB_append {a b : List Value} (h : oneB a = true) (h' : oneB b = true) : oneB (a ++ b) = true := by
  simp only [oneB, List.all_append, Bool.and_eq_true] at *; exact ⟨h, h'⟩
instance OkS.nil : OkS [] := ⟨trivial, rfl⟩
instance OkS.one {v : Value} {r : List Cs} [h : OneV v] [h' : OkS r] : OkS (.one v :: r) := ⟨h'.h.1, oneB_append (by simp [oneB, Cs.cells, h.h]) h'.h.2⟩
theorem Rep.oneAll {G : Type} {R : Rep G} (gs : List G) : oneB (R.all gs) = true := by
  simp only [oneB, List.all_eq_true]; exact fun u hu => Rep.one gs u hu
instance OkS.blk {G : Type} {R : Rep G} {gs : List G} {m : Nat} {r : List Cs} [h : LenIs gs m] [hs : SzIs R 1] [h' : OkS r] : OkS (.blk m (R.all gs) :: r) := ⟨⟨by rw [Rep.len, h.h, hs.h, Nat.mul_one], h'.h.1⟩, oneB_append (Rep.oneAll gs) h'.h.2⟩
/-- a value's segments -/
class Sg (v : Value) (s : outParam (List Cs)) : Prop where
  h : v.cells.toList = flat s ∧ okS s ∧ oneB (flat s) = true
instance Sg.ag {s : List Cs} [h : OkS s] : Sg (.agg (flat s).toArray) s := ⟨cells_Ag s, h.h⟩
instance (priority := low) Sg.one {v : Value} [h : OneV v] : Sg v [.one v] := ⟨(by have := h.h; cases v <;> first | rfl | cases this), trivial, by simp [oneB, flat, Cs.cells, h.h]⟩
/-- the zero value's segments -/
class ZS (P : Program) (t : TypeId) (s : outParam (List Cs)) : Prop where
  h : (zeroB P t).map (fun z => z.cells.toList) = some (flat s)
  ok : okS s
/-- the zero value as an element -/
class ZE (P : Program) (e : TypeId) {G : outParam Type} (R : outParam (Rep G)) (g : outParam G) : Prop where
  h : (zeroB P e).map (fun z => z.cells.toList) = some (flat (R.sg g))
  sz : szB P e = some R.sz
/-- an element type -/
class EL (P : Program) (e : TypeId) (sz bytes : outParam Nat) : Prop where
  h : ElemT P e sz bytes
/-- A's place in L -/
class UpdF (L : List Assn) (A : Assn) (F : outParam (Assn → List Assn)) : Prop where
  get : ∃ i, L[i]? = some A ∧ ∀ A', F A' = L.set i A'
section
variable {L : List Assn} {A B : Assn}
instance UpdF.hd : UpdF (A :: L) A (fun A' => A' :: L) := ⟨0, rfl, fun _ => rfl⟩
instance UpdF.tl {F : Assn → List Assn} [h : UpdF L A F] : UpdF (B :: L) A (fun A' => B :: F A') := by
  obtain ⟨i, h1, h2⟩ := h.get
  exact ⟨i + 1, by simpa using h1, fun A' => by rw [h2]; rfl⟩
end
theorem UpdF.st {w0 w : World} {X : Nat → Prop} {L : List Assn} {A A' : Assn} {F : Assn → List Assn} (h : UpdF L A F) (hs : ∀ i, L[i]? = some A → St w0 X (A' :: L.eraseIdx i) w) : St w0 X (F A') w := by
  obtain ⟨i, h1, h2⟩ := h.get
  rw [h2]
  exact (hs i h1).set (List.getElem?_eq_some_iff.1 h1).1

/-! addresses of elements -/
@[irreducible] def el (A : Option Addr) (n c sz : Nat) (i : Int) : Addr := (A.getD default).add (i.toNat * sz)
theorem el_eq (b o n c sz : Nat) (i : Int) : el (some ⟨b, o, none⟩) n c sz i = ⟨b, o + i.toNat * sz, none⟩ := by unfold el; simp [Addr.add_lit]
@[irreducible] def ela (g o m sz : Nat) (i : Int) : Addr := ⟨g, o + i.toNat * sz, none⟩
theorem ela_eq (g o m sz : Nat) (i : Int) : ela g o m sz i = ⟨g, o + i.toNat * sz, none⟩ := by unfold ela; rfl
@[irreducible] def cutA (A : Option Addr) (n c c2 sz : Nat) (l : Int) : Option Addr := if c2 = l.toNat then A else A.map (·.add (l.toNat * sz))
class PtrN (p : Addr) (A : outParam (Option Addr)) (n c sz : outParam Nat) (i : outParam Int) (off : outParam Nat) : Prop where
  h : p = (el A n c sz i).add off
instance PtrN.el {A : Option Addr} {n c sz : Nat} {i : Int} : PtrN (el A n c sz i) A n c sz i 0 := ⟨by simp [Addr.add_zero']⟩
theorem add_add (p : Addr) (a b : Nat) : (p.add a).add b = p.add (a + b) := by
  unfold Addr.add; split <;> split <;> simp_all <;> first | omega | (split <;> first | omega | (simp; omega))
instance PtrN.add {p : Addr} {A : Option Addr} {n c sz o off : Nat} {i : Int} [h : PtrN p A n c sz i off] : PtrN (p.add o) A n c sz i (off + o) := ⟨by rw [h.h, add_add]⟩
def ixd {G : Type} [Inhabited G] (gs : List G) (i : Int) : G := gs.getD i.toNat default
theorem ixd_eq {G : Type} [Inhabited G] {gs : List G} {i : Int} (h : i.toNat < gs.length) : ixd gs i = gs[i.toNat] := by simp [ixd, h]

section
variable {P : Program} {n : Nat} {w0 : World} {X : Nat → Prop} {Q : Cont} {E : Env} {L L' : List Assn} {s : Ms} {ops : Array Oper} {rest : List Oper} {v : Value}
variable {d : Nat} {ty : TypeId} {pos : String} {aft : Array Edge} {op : Op} {G : Type} {R : Rep G} {gs : List G}
/-! looks -/
theorem box_cells {w : World} {g : Nat} {t : TypeId} {cs : List Cs} (h : FBox L g t cs) (hw : St w0 X L w) : okS cs ∧ ∀ j, w.cell? ⟨g, j, none⟩ = (flat cs)[j]? := by
  obtain ⟨k, ⟨ok, rfl⟩, hs⟩ := hw.getM h.get
  refine ⟨ok, fun j => ?_⟩
  rw [cell_of_row w g j _ t (0, 0) hs.one]; simp
theorem lvb {g o : Nat} {t tt : TypeId} {cs : List Cs} {u : Value} [h : FBox L g tt cs] (ha : aggB P t = some false) (hu : at1 cs o = some u) : Lv P w0 X L t ⟨g, o, none⟩ u := .mk fun w hw => by
  obtain ⟨ok, hc⟩ := box_cells h hw
  exact run_loadVar_one ha ((hc o).trans (at1_ok ok hu))
theorem lvB {g o m : Nat} {t tt : TypeId} {cs s' : List Cs} [h : FBox L g tt cs] (ha : aggB P t = some true) (hz : szB P t = some m) (hu : subS cs o m = some s') : Lv P w0 X L t ⟨g, o, none⟩ (Ag s') := .mk fun w hw => by
  obtain ⟨ok, hc⟩ := box_cells h hw
  obtain ⟨e1, e2, e3⟩ := subS_ok ok hu
  refine run_loadVar_agg ha (by rw [flat_len e2, e3]; exact hz) fun j u hj => ?_
  rw [Addr.add_lit, hc]
  have hjl : j < m := by rw [← e3, ← flat_len e2]; exact (List.getElem?_eq_some_iff.1 hj).1
  rw [← e1, List.getElem?_take_of_lt hjl, List.getElem?_drop] at hj
  exact hj
theorem elem_cell {A : Option Addr} {m c sz : Nat} {i : Int} [Inhabited G] {w : World} (hR : Rw w0 X L (.slice A m c) R gs) (hs : R.sz = sz) (hI : Ix i m) (hw : St w0 X L w) :
    ∃ b o, el A m c sz i = ⟨b, o, none⟩ ∧ ∀ j u, (flat (R.sg (ixd gs i)))[j]? = some u → w.cell? ⟨b, o + j, none⟩ = some u := by
  subst hs
  have hl := hR.len hw
  obtain ⟨A', c', e, h1, h2, h3, hr⟩ := hR.get w hw
  cases e
  have hi : i.toNat < gs.length := by have := hI.h; omega
  have h0 : 0 < (R.all gs).length := by
    rw [Rep.len]; exact Nat.mul_pos (by omega) R.pos
  obtain ⟨b, o, rfl, hc⟩ := hr h0
  refine ⟨b, _, el_eq b o _ _ _ i, fun j u hj => ?_⟩
  rw [ixd_eq hi] at hj
  rw [Nat.add_assoc]
  exact hc _ u (Rep.at_ hi hj)
theorem lve {p : Addr} {A : Option Addr} {m c sz off : Nat} {i : Int} {t : TypeId} {u : Value} [Inhabited G] [hp : PtrN p A m c sz i off] [hR : Rw w0 X L (.slice A m c) R gs] [hs : SzIs R sz] [hI : Ix i m] (ha : aggB P t = some false) (hu : at1 (R.sg (ixd gs i)) off = some u) : Lv P w0 X L t p u := .mk fun w hw => by
  obtain ⟨b, o, e, hc⟩ := elem_cell hR hs.h hI hw
  rw [hp.h, e, Addr.add_lit]
  exact run_loadVar_one ha (hc _ _ (at1_ok (R.ok _).1 hu))
theorem lvE {p : Addr} {A : Option Addr} {m c sz off k : Nat} {i : Int} {t : TypeId} {s' : List Cs} [Inhabited G] [hp : PtrN p A m c sz i off] [hR : Rw w0 X L (.slice A m c) R gs] [hs : SzIs R sz] [hI : Ix i m] (ha : aggB P t = some true) (hz : szB P t = some k) (hu : subS (R.sg (ixd gs i)) off k = some s') : Lv P w0 X L t p (Ag s') := .mk fun w hw => by
  obtain ⟨b, o, e, hc⟩ := elem_cell hR hs.h hI hw
  rw [hp.h, e, Addr.add_lit]
  obtain ⟨e1, e2, e3⟩ := subS_ok (R.ok _).1 hu
  refine run_loadVar_agg ha (by rw [flat_len e2, e3]; exact hz) fun j u hj => ?_
  rw [Addr.add_lit, Nat.add_assoc]
  refine hc _ _ ?_
  have hjl : j < k := by rw [← e3, ← flat_len e2]; exact (List.getElem?_eq_some_iff.1 hj).1
  rw [← e1, List.getElem?_take_of_lt hjl, List.getElem?_drop] at hj
  exact hj
/-- an array's element, in a block of the call's own -/
theorem lva {g o m sz : Nat} {i : Int} {t tt : TypeId} {cs : List Cs} {u : Value} [Inhabited G] [h : FBox L g tt cs] [hI : Ix i m] (hq : subS cs o m = some [.blk m (R.all gs)]) (hs : R.sz = 1) (hz : sz = 1) (ha : aggB P t = some false) (hu : at1 (R.sg (ixd gs i)) 0 = some u) : Lv P w0 X L t (ela g o m sz i) u := .mk fun w hw => by
  subst hz
  obtain ⟨ok, hc⟩ := box_cells h hw
  obtain ⟨e1, e2, e3⟩ := subS_ok ok hq
  have hl : gs.length = m := by have := e2.1; rw [Rep.len, hs, Nat.mul_one] at this; exact this
  have hi : i.toNat < gs.length := by have := hI.h; omega
  rw [ela_eq]
  refine run_loadVar_one ha ((hc _).trans ?_)
  have h1 := at1_ok (R.ok _).1 hu
  rw [ixd_eq hi] at h1
  have h2 := Rep.at_ hi h1
  rw [hs, Nat.mul_one, Nat.add_zero] at h2
  rw [Nat.mul_one, ← List.getElem?_drop]
  have h3 : i.toNat < m := by omega
  rw [← List.getElem?_take_of_lt h3, e1]
  simpa [flat, Cs.cells] using h2
theorem dmL {i j : Nat} {r : Od} {t : TypeId} {p : Addr} {u : Value} {D : Pledges} (hl : Lv P w0 X L t p u) (h : Dm w0 X ops (some (.cons i r, D)) L) : Dm w0 X ops (some (.cons i r, (j, fun w => (loadVar t p).run P w = .ok u w) :: D)) L := dmOn hl.go h
theorem gl {x : Operand} {t : TypeId} {p : Addr} {u : Value} {q : Prop} (hx : eev E x = some (.pointer (some p))) (hl : Lv P w0 X L t p u) [hq : Rng u q] (hd : Nat.blt d n = true)
    (k : q → GO P n w0 X (loadM (fun w => (loadVar t p).run P w = .ok u w) s) ops rest Q ((d, u) :: E) L) : GO P n w0 X s ops (⟨some d, .load t x, ty, pos, aft, none⟩ :: rest) Q E L :=
  go_look (fun w => (loadVar t p).run P w = .ok u w) rfl hl.go (fun w hw => ⟨fun a ha => by simp [execOp, ha.ev hx, Instr.loadAt, Instr.sureAddr, hw]⟩) hd (k hq.is)
/-! addresses -/
theorem gf {x : Operand} {t i off : Nat} {p : Addr} (hx : eev E x = some (.pointer (some p))) (hf : fldB P t i = some off) (hd : Nat.blt d n = true) (k : GO P n w0 X (nextM s) ops rest Q ((d, .pointer (some (p.add off))) :: E) L) : GO P n w0 X s ops (⟨some d, .fieldAddr t x i, ty, pos, aft, none⟩ :: rest) Q E L :=
  go_yld rfl (fun _ _ => y_field hx hf) hd k
theorem gix {x ix : Operand} {A : Option Addr} {m c sz : Nat} {k : IntKind} {i : Int} {t e : TypeId} (hx : eev E x = some (.slice A m c)) (hi : eev E ix = some (.int k i)) (ht : P.underlying t = some (.slice e)) (hz : szB P e = some sz) [hR : Rw w0 X L (.slice A m c) R gs] [hs : SzIs R sz] (hb : 0 ≤ i ∧ i < m) (hd : Nat.blt d n = true)
    (kk : Ix i m → GO P n w0 X (nextM s) ops rest Q ((d, .pointer (some (el A m c sz i))) :: E) L) : GO P n w0 X s ops (⟨some d, .indexAddr t x ix, ty, pos, aft, none⟩ :: rest) Q E L :=
  go_yld rfl (fun w hw => by
    have hl := hR.len hw
    obtain ⟨A', c', e', h1, h2, h3, hr⟩ := hR.get w hw
    cases e'
    obtain ⟨b, o, rfl, hc⟩ := hr (by rw [Rep.len]; exact Nat.mul_pos (by omega) R.pos)
    rw [el_eq]
    exact y_index_slice hx hi ht hz hb.1 hb.2) hd (kk ⟨hb⟩)
theorem gixa {x ix : Operand} {g o m sz : Nat} {k : IntKind} {i : Int} {t e : TypeId} (hx : eev E x = some (.pointer (some ⟨g, o, none⟩))) (hi : eev E ix = some (.int k i)) (ht : P.underlying t = some (.array m e)) (hz : szB P e = some sz) (hb : 0 ≤ i ∧ i < m) (hd : Nat.blt d n = true)
    (kk : Ix i m → GO P n w0 X (nextM s) ops rest Q ((d, .pointer (some (ela g o m sz i))) :: E) L) : GO P n w0 X s ops (⟨some d, .indexAddr t x ix, ty, pos, aft, none⟩ :: rest) Q E L :=
  go_yld rfl (fun w hw => by rw [ela_eq]; exact y_index_array hx hi ht hz hb.1 hb.2) hd (kk ⟨hb⟩)
/-! cuts -/
theorem go_with {l : List Oper} (h : ∀ w, St w0 X L w → GO P n w0 X s ops l Q E L) : GO P n w0 X s ops l Q E L := by
  cases s with
  | none => exact ⟨fun w hw => (h w hw).go w hw⟩
  | some p =>
    obtain ⟨r, D⟩ := p
    cases r with
    | nil => cases l with
      | nil => exact ⟨fun w hw => (h w hw).go w hw⟩
      | cons o l => exact ⟨trivial⟩
    | cons i r => cases l with
      | nil => exact ⟨trivial⟩
      | cons o l => exact ⟨fun hh ph w hw => (h w hw).go hh ph w hw⟩
    | fork => cases l with
      | nil => exact ⟨fun w hw => (h w hw).go w hw⟩
      | cons o l => exact ⟨trivial⟩
theorem gc_with {c : Code} (h : ∀ w, St w0 X L w → GC P n w0 X c Q E L) : GC P n w0 X c Q E L := ⟨fun w hw => (h w hw).go w hw⟩
theorem Rw.cap {A : Option Addr} {m c : Nat} (hR : Rw w0 X L (.slice A m c) R gs) {w : World} (hw : St w0 X L w) : gs.length = m ∧ m ≤ c ∧ c ≤ 9223372036854775807 := by
  have hl := hR.len hw
  obtain ⟨A', c', e, h1, h2, h3, hr⟩ := hR.get w hw
  cases e
  exact ⟨hl, by omega, by simpa [maxLen] using h3⟩
section cuts
variable {x lo hi mx : Operand} {A : Option Addr} {m c sz : Nat} {kl kh km : IntKind} {l h mm : Int} {t e : TypeId}
theorem gc3 (hx : eev E x = some (.slice A m c)) (hl : eev E lo = some (.int kl l)) (hh : eev E hi = some (.int kh h)) (hm : eev E mx = some (.int km mm)) (ht : P.underlying t = some (.slice e)) (hz : szB P e = some sz) [hR : Rw w0 X L (.slice A m c) R gs] (hb : 0 ≤ l ∧ l ≤ h ∧ h ≤ m ∧ h ≤ mm ∧ mm ≤ m) (hd : Nat.blt d n = true)
    (kk : Cu l (h - l).toNat m c mm.toNat (mm.toNat - l.toNat) → GO P n w0 X (nextM s) ops rest Q ((d, .slice (cutA A m c mm.toNat sz l) (h - l).toNat (mm.toNat - l.toNat)) :: E) L) : GO P n w0 X s ops (⟨some d, .slice t x (some lo) (some hi) (some mx), ty, pos, aft, none⟩ :: rest) Q E L :=
  go_with fun w hw => by
    have hc := hR.cap hw
    refine go_yld rfl (fun _ _ => ?_) hd (kk ⟨by omega⟩)
    have := y_cut_lhm (P := P) (n := n) (d := d) (ty := ty) (pos := pos) (aft := aft) hx hl hh hm ht hz hb.1 hb.2.1 hb.2.2.2.1 (by omega)
    have e : h.toNat - l.toNat = (h - l).toNat := by omega
    rw [e] at this; unfold cutA; exact this
theorem gc2 (hx : eev E x = some (.slice A m c)) (hl : eev E lo = some (.int kl l)) (hh : eev E hi = some (.int kh h)) (ht : P.underlying t = some (.slice e)) (hz : szB P e = some sz) [hR : Rw w0 X L (.slice A m c) R gs] (hb : 0 ≤ l ∧ l ≤ h ∧ h ≤ m) (hd : Nat.blt d n = true)
    (kk : Cu l (h - l).toNat m c c (c - l.toNat) → GO P n w0 X (nextM s) ops rest Q ((d, .slice (cutA A m c c sz l) (h - l).toNat (c - l.toNat)) :: E) L) : GO P n w0 X s ops (⟨some d, .slice t x (some lo) (some hi) none, ty, pos, aft, none⟩ :: rest) Q E L :=
  go_with fun w hw => by
    have hc := hR.cap hw
    refine go_yld rfl (fun _ _ => ?_) hd (kk ⟨by omega⟩)
    have := y_cut_lh (P := P) (n := n) (d := d) (ty := ty) (pos := pos) (aft := aft) hx hl hh ht hz hb.1 hb.2.1 (by omega)
    have e : h.toNat - l.toNat = (h - l).toNat := by omega
    rw [e] at this; unfold cutA; exact this
theorem gch (hx : eev E x = some (.slice A m c)) (hh : eev E hi = some (.int kh h)) (ht : P.underlying t = some (.slice e)) (hz : szB P e = some sz) [hR : Rw w0 X L (.slice A m c) R gs] (hb : 0 ≤ h ∧ h ≤ m) (hd : Nat.blt d n = true)
    (kk : Cu 0 h.toNat m c c c → GO P n w0 X (nextM s) ops rest Q ((d, .slice (cutA A m c c sz 0) h.toNat c) :: E) L) : GO P n w0 X s ops (⟨some d, .slice t x none (some hi) none, ty, pos, aft, none⟩ :: rest) Q E L :=
  go_with fun w hw => by
    have hc := hR.cap hw
    refine go_yld rfl (fun _ _ => ?_) hd (kk ⟨by omega⟩)
    have := y_cut_h (P := P) (n := n) (d := d) (ty := ty) (pos := pos) (aft := aft) hx hh ht hz hb.1 (by omega)
    unfold cutA; exact this
theorem gcl (hx : eev E x = some (.slice A m c)) (hl : eev E lo = some (.int kl l)) (ht : P.underlying t = some (.slice e)) (hz : szB P e = some sz) [hR : Rw w0 X L (.slice A m c) R gs] (hb : 0 ≤ l ∧ l ≤ m) (hd : Nat.blt d n = true)
    (kk : Cu l (m - l.toNat) m c c (c - l.toNat) → GO P n w0 X (nextM s) ops rest Q ((d, .slice (cutA A m c c sz l) (m - l.toNat) (c - l.toNat)) :: E) L) : GO P n w0 X s ops (⟨some d, .slice t x (some lo) none none, ty, pos, aft, none⟩ :: rest) Q E L :=
  go_with fun w hw => by
    have hc := hR.cap hw
    refine go_yld rfl (fun _ _ => ?_) hd (kk ⟨by omega⟩)
    have := y_cut_l (P := P) (n := n) (d := d) (ty := ty) (pos := pos) (aft := aft) hx hl ht hz hb.1 hb.2
    unfold cutA; exact this
/-- all of an array -/
theorem gca {g o k : Nat} (hx : eev E x = some (.pointer (some ⟨g, o, none⟩))) (ht : P.underlying t = some (.array k e)) (hz : szB P e = some sz) (hd : Nat.blt d n = true)
    (kk : GO P n w0 X (nextM s) ops rest Q ((d, .slice (some ⟨g, o, none⟩) k k) :: E) L) : GO P n w0 X s ops (⟨some d, .slice t x none none none, ty, pos, aft, none⟩ :: rest) Q E L :=
  go_yld rfl (fun w hw => y_arr_all hx ht hz) hd kk
end cuts
instance Rw.cut {A : Option Addr} {m c c' c2 k sz : Nat} {l : Int} [hb : Cu l k m c c2 c'] [hR : Rw w0 X L (.slice A m c) R gs] [hs : SzIs R sz] : Rw w0 X L (.slice (cutA A m c c2 sz l) k c') R ((gs.drop l.toNat).take k) := ⟨fun w hw => by
  have hl := hR.len hw
  obtain ⟨A', c1, e, h1, h2, h3, hr⟩ := hR.get w hw
  cases e
  have hsz := hs.h; subst hsz
  have hb := hb.h
  have hkk : ((gs.drop l.toNat).take k).length = k := by simp; omega
  refine ⟨_, c', by rw [hkk], by rw [Rep.len], by rw [hkk]; omega, by omega, ?_⟩
  have := hr.cut (c := c2) (k := l.toNat) (m := k * R.sz) (size := R.sz) fun e => by
    left
    have : k = 0 := by omega
    subst this; simp
  rw [Rep.all_drop, Rep.all_take] at this
  unfold cutA; exact this⟩
/-- an array of a block, as a slice -/
class Blk (cs : List Cs) (o m : Nat) {G : outParam Type} (R : outParam (Rep G)) (gs : outParam (List G)) : Prop where
  h : okS cs → ((flat cs).drop o).take m = R.all gs ∧ (R.all gs).length = m
instance Blk.hd {m : Nat} {r : List Cs} : Blk (.blk m (R.all gs) :: r) 0 m R gs := ⟨fun ok => by
  have := ok.1
  simp only [flat, Cs.cells, List.drop_zero]
  exact ⟨by rw [List.take_append, List.take_of_length_le (by omega), this]; simp, this⟩⟩
instance Blk.tl1 {u : Value} {o m : Nat} {r : List Cs} [h : Blk r o m R gs] : Blk (.one u :: r) (o + 1) m R gs := ⟨fun ok => by simpa [flat, Cs.cells] using h.h ok⟩
instance Blk.tl2 {xs : List Value} {o m k : Nat} {r : List Cs} [h : Blk r o m R gs] : Blk (.blk k xs :: r) (o + k) m R gs := ⟨fun ok => by
  have h1 := h.h ok.2
  refine ⟨?_, h1.2⟩
  simp only [flat, Cs.cells]
  rw [List.drop_append, List.drop_eq_nil_of_le (by rw [ok.1]; omega), List.nil_append, ok.1, Nat.add_sub_cancel]; exact h1.1⟩
instance Rw.box {g o m : Nat} {t : TypeId} {cs : List Cs} [h : FBox L g t cs] [hb : Blk cs o m R gs] [hs : SzIs R 1] [hm : NLe m 4096] : Rw w0 X L (.slice (some ⟨g, o, none⟩) m m) R gs := ⟨fun w hw => by
  obtain ⟨ok, hc⟩ := box_cells h hw
  obtain ⟨h1, h2⟩ := hb.h ok
  have hsz := hs.h
  have hl : gs.length = m := by rw [Rep.len, hsz, Nat.mul_one] at h2; exact h2
  have hm := hm.h
  refine ⟨_, m, by rw [hl], by rw [Rep.len], by omega, by simp [maxLen]; omega, fun _ => ⟨g, o, rfl, fun j u hj => ?_⟩⟩
  rw [hc]
  have hjl : j < m := by rw [← h2]; exact (List.getElem?_eq_some_iff.1 hj).1
  rw [← h1, List.getElem?_take_of_lt hjl, List.getElem?_drop] at hj
  exact hj⟩
end
end Go.Proofs.YtalainpmlonahaaDoor
end
section
/-!
  THE SECOND ENGINE, fifth part: what turns memory; structs and slices written out; calls. No program in sight.
-/
set_option linter.unusedVariables false
namespace Go.Proofs.YtalainpmlonahaaDoor
open Go.RowKit

/-- a list of values, each with its segments -/
class Sgs (ps : List (Nat × Value)) (qs : outParam (List (Nat × List Cs))) : Prop where
  h : (ps.map (·.1)) = (qs.map (·.1)) ∧ ∀ (i : Nat) (p : Nat × Value) (q : Nat × List Cs), ps[i]? = some p → qs[i]? = some q → p.2.cells.toList = flat q.2 ∧ okS q.2
instance Sgs.nil : Sgs [] [] := ⟨rfl, fun i p q h => by simp at h⟩
instance Sgs.cons {i : Nat} {v : Value} {s : List Cs} {r : List (Nat × Value)} {r' : List (Nat × List Cs)} [h : Sg v s] [h' : Sgs r r'] : Sgs ((i, v) :: r) ((i, s) :: r') := ⟨by simp [h'.h.1], fun j p q hp hq => by
  cases j with
  | zero => simp at hp hq; subst hp hq; exact ⟨h.h.1, h.h.2.1⟩
  | succ j => exact h'.h.2 j p q (by simpa using hp) (by simpa using hq)⟩
/-- fields laid one after the other -/
def bldS (place : Nat → Option (Nat × Nat)) : List Cs → List (Nat × List Cs) → Option (List Cs)
  | z, [] => some z
  | z, (i, s) :: r => match place i with
    | some (off, sz) => bif Nat.beq sz (lenS s) then (match putS z off s with | some z' => bldS place z' r | none => none) else none
    | none => none
theorem bldS_fill {place : Nat → Option (Nat × Nat)} : ∀ {ps : List (Nat × Value)} {qs : List (Nat × List Cs)} {z r : List Cs}, okS z → (ps.map (·.1)) = (qs.map (·.1)) → (∀ (i : Nat) (p : Nat × Value) (q : Nat × List Cs), ps[i]? = some p → qs[i]? = some q → p.2.cells.toList = flat q.2 ∧ okS q.2) →
    bldS place z qs = some r → FillP place (flat z) ps (flat r) ∧ okS r
  | [], [], z, r, ok, _, _, h => by simp [bldS] at h; subst h; exact ⟨rfl, ok⟩
  | [], _ :: _, _, _, _, h, _, _ => by simp at h
  | _ :: _, [], _, _, _, h, _, _ => by simp at h
  | (i, v) :: ps, (j, s) :: qs, z, r, ok, hi, hall, h => by
    simp only [List.map_cons, List.cons.injEq] at hi
    obtain ⟨rfl, hi⟩ := hi
    obtain ⟨h1, h2⟩ := hall 0 _ _ rfl rfl
    simp only at h1 h2
    simp only [bldS] at h
    split at h
    · rename_i off sz hp
      cases hb : Nat.beq sz (lenS s) <;> rw [hb] at h
      · simp at h
      have hsz := beqT hb
      simp only [cond_true] at h
      split at h
      · rename_i z' hz
        obtain ⟨e1, e2, e3, e4⟩ := putS_ok ok h2 hz
        obtain ⟨f1, f2⟩ := bldS_fill e2 hi (fun k p q hp hq => hall (k + 1) p q (by simpa using hp) (by simpa using hq)) h
        refine ⟨⟨off, sz, hp, ?_, ?_, ?_⟩, f2⟩
        · rw [h1, flat_len h2, hsz]
        · rw [flat_len ok]; omega
        · rw [h1, e1]; exact f1
      · cases h
    · cases h

section
variable {P : Program} {n : Nat} {w0 : World} {X : Nat → Prop} {Q : Cont} {E : Env} {L L' : List Assn} {s : Ms} {ops : Array Oper} {rest : List Oper} {v : Value}
variable {d : Nat} {ty : TypeId} {pos : String} {aft : Array Edge} {op : Op} {G : Type} {R : Rep G} {gs : List G}
theorem gbu {t : TypeId} {fs : Array Field} {z cs : List Cs} {parts : List (Nat × Operand)} {ps : List (Nat × Value)} {qs : List (Nat × List Cs)} (hs : P.underlying t = some (.struct fs)) [hz : ZS P t z] (hb : sizedB P fs = true) (hp : evps E parts = some ps) [hq : Sgs ps qs] (hf : bldS (placesOf P fs) z qs = some cs) (hd : Nat.blt d n = true)
    (k : GO P n w0 X (nextM s) ops rest Q ((d, Ag cs) :: E) L) : GO P n w0 X s ops (⟨some d, .build t parts.toArray, ty, pos, aft, none⟩ :: rest) Q E L := by
  refine go_yld rfl (fun _ _ => ?_) hd k
  have h0 := hz.h
  obtain ⟨zv, hzv, hzc⟩ := Option.map_eq_some_iff.1 h0
  have := (bldS_fill hz.ok hq.h.1 hq.h.2 hf).1
  exact y_build hs hzv hb hp (by rw [hzc]; exact this)
/-! new blocks -/
theorem St.addBox {w : World} (hw : St w0 X L w) (t : TypeId) (cs : List Cs) (ok : okS cs) : St w0 X (boxA w.heap.size t cs :: L) (w.alloc (.cells (flat cs).toArray t)) :=
  hw.grow rfl rfl rfl (by simp) (fun b hb => Below.heap_alloc w _ b hb) ⟨_, ⟨ok, rfl⟩, Sub.of_one (heap_alloc_new w _), fun b hb => by rw [hone_ne hb]; exact Nat.le_refl _⟩
theorem ga {t : TypeId} {z : List Cs} [hz : ZS P t z] (hd : Nat.blt d n = true) (hD : ∀ g : Nat, Dm w0 X ops s (boxA g t z :: L))
    (k : ∀ g : Nat, GO P n w0 X (nextM s) ops rest Q ((d, .pointer (some ⟨g, 0, none⟩)) :: E) (boxA g t z :: L)) : GO P n w0 X s ops (⟨some d, .alloc t, ty, pos, aft, none⟩ :: rest) Q E L := by
  obtain ⟨zv, hzv, hzc⟩ := Option.map_eq_some_iff.1 hz.h
  refine go_hv (ρ := Nat) (φ := fun _ => True) rfl (fun w hw rest Q k => ?_) (fun g _ => hD g) (fun g _ => k g)
  refine tl_run (fun a ha => by simp only [execOp, Instr.alloc, Sem.run_bind, run_zeroValue hzv, Result.andThen_ok, newVar, newRow]; rfl) hd (k w.heap.size _ trivial ?_)
  have := hw.addBox t z hz.ok
  rw [← hzc] at this
  simpa using this
theorem gx {t : TypeId} {x : Operand} {z : List Cs} (hx : eev E x = some v) [hz : Sg v z] (hd : Nat.blt d n = true) (hD : ∀ g : Nat, Dm w0 X ops s (boxA g t z :: L))
    (k : ∀ g : Nat, GO P n w0 X (nextM s) ops rest Q ((d, .pointer (some ⟨g, 0, none⟩)) :: E) (boxA g t z :: L)) : GO P n w0 X s ops (⟨some d, .box t x, ty, pos, aft, none⟩ :: rest) Q E L := by
  refine go_hv (ρ := Nat) (φ := fun _ => True) rfl (fun w hw rest Q k => ?_) (fun g _ => hD g) (fun g _ => k g)
  refine tl_run (fun a ha => by simp only [execOp, ha.ev hx, Instr.box, newVar, newRow]; rfl) hd (k w.heap.size _ trivial ?_)
  have := hw.addBox t z hz.h.2.1
  rw [← hz.h.1] at this
  simpa using this
/-! stores -/
theorem FBox.upd {g : Nat} {t : TypeId} {cs cs' : List Cs} {w : World} {i : Nat} (ok' : okS cs') (hi : L[i]? = some (boxA g t cs)) (hw : St w0 X L w) : St w0 X (boxA g t cs' :: L.eraseIdx i) (w.setRow g (flat cs').toArray) := by
  refine hw.step hi rfl rfl rfl (by simp) fun k hk hs => ?_
  obtain ⟨ok, rfl⟩ := hk
  refine ⟨_, ⟨ok', rfl⟩, Sub.of_one (setRow_heap w g _ _ t (0, 0) hs.one), fun b hb => .inl ?_, fun b _ hb => setRow_other w g b _ ?_⟩
  · rw [hone_ne hb, hone_self]; simp
  · rintro rfl; rw [hone_self] at hb; cases hb
theorem gst {x y : Operand} {t tt : TypeId} {g o : Nat} {cs cs' s' : List Cs} {u : Value} {F : Assn → List Assn} (hx : eev E x = some (.pointer (some ⟨g, o, none⟩))) (hy : eev E y = some u) [hb : FBox L g tt cs] [hs : Sg u s'] (hp : putS cs o s' = some cs') (hz : szB P t = some (lenS s')) [hF : UpdF L (boxA g tt cs) F] (hD : Dm w0 X ops s (F (boxA g tt cs')))
    (k : GO P n w0 X (nextM s) ops rest Q E (F (boxA g tt cs'))) : GO P n w0 X s ops (⟨none, .store t x y, ty, pos, aft, none⟩ :: rest) Q E L := by
  refine go_hv (ρ := Unit) (E' := fun _ => E) (L' := fun _ => F (boxA g tt cs')) (φ := fun _ => True) rfl (fun w hw rest Q k => ?_) (fun _ _ => hD) (fun _ _ => k)
  obtain ⟨ok, hc⟩ := box_cells hb hw
  obtain ⟨h1, h2, h3⟩ := hs.h
  obtain ⟨e1, e2, e3, e4⟩ := putS_ok ok h2 hp
  have hcs : u.cells.size = lenS s' := by rw [← Array.length_toList, h1, flat_len h2]
  have hst' : St w0 X (F (boxA g tt cs')) (w.setRow g (flat cs').toArray) := hF.st fun i hi => FBox.upd e2 hi hw
  refine tl_skip (fun a ha => ?_) (k () _ trivial hst')
  obtain ⟨kk, ⟨_, rfl⟩, hsub⟩ := hw.getM hb.get
  have := run_storeVar (P := P) (w := w) (t := t) (tt := tt) (g := g) (o := o) (cur := (flat cs).toArray) (v := u) (by rw [hcs]; exact hz) hsub.one (by rw [hcs]; simp [flat_len ok]; omega) (by rw [h1]; exact h3)
  simp only [execOp, ha.ev hx, ha.ev hy, Instr.storeAt, Instr.sureAddr, Sem.run_bind, Sem.run_pure, Result.andThen_ok, this, h1, e1]
theorem all_set {gs : List G} {j : Nat} {g' : G} (hj : j < gs.length) : R.all (gs.set j g') = splice (R.all gs) (j * R.sz) (flat (R.sg g')) := by
  have hfl := Rep.flen (R := R) g'
  rw [List.set_eq_take_append_cons_drop, if_pos hj, Rep.all_append, ← Rep.all_take]
  simp only [splice]
  have : R.all (g' :: gs.drop (j + 1)) = flat (R.sg g') ++ R.all (gs.drop (j + 1)) := by simp [Rep.all]
  rw [this, ← Rep.all_drop, hfl, Nat.add_mul, Nat.one_mul, List.append_assoc]
theorem row_set {e : TypeId} {sv : Sv} {m j : Nat} {g' : G} {w : World} {i : Nat} (hj : j < m) (hi : L[i]? = some (rw_ e R sv m gs)) (hw : St w0 X L w) :
    ∃ b cur, sv.A = some ⟨b, 0, none⟩ ∧ w.heap[b]? = some (.cells cur e (0, 0)) ∧ j * R.sz + R.sz ≤ cur.size ∧ gs.length = m ∧ (∀ off u, (flat (R.sg (gs.getD j g')))[off]? = some u → cur[j * R.sz + off]? = some u) ∧ St w0 X (rw_ e R sv m (gs.set j g') :: L.eraseIdx i) (w.setRow b (splice cur.toList (j * R.sz) (flat (R.sg g'))).toArray) := by
  obtain ⟨k, ⟨hl, hk⟩, hs⟩ := hw.get hi
  subst hl
  rcases hk with ⟨_, h0⟩ | ⟨b, ys, rfl, hm, rfl⟩
  · omega
  · have hle : j * R.sz + R.sz ≤ gs.length * R.sz := by
      have := Nat.mul_le_mul_right R.sz (show j + 1 ≤ gs.length by omega)
      rwa [Nat.add_mul, Nat.one_mul] at this
    have hsz : (R.all (gs ++ ys)).length = gs.length * R.sz + ys.length * R.sz := by rw [Rep.len, List.length_append, Nat.add_mul]
    refine ⟨b, _, rfl, hs.one, by rw [List.size_toArray, hsz]; omega, rfl, fun off u hu => ?_, ?_⟩
    · rw [List.getD_eq_getElem?_getD, List.getElem?_eq_getElem hj, Option.getD_some] at hu
      have hj' : j < (gs ++ ys).length := by simp; omega
      have h6 := Rep.at_ (R := R) (gs := gs ++ ys) hj' (by rw [List.getElem_append_left hj]; exact hu)
      simpa using h6
    · refine hw.step hi rfl rfl rfl (by simp) fun k hk' hs' => ?_
      obtain ⟨_, hk2⟩ := hk'
      rcases hk2 with ⟨h0, _⟩ | ⟨b', ys', he', hm', rfl⟩
      · cases h0
      simp only [Sv.mk.injEq, Option.some.injEq, Addr.mk.injEq, and_true] at he'
      obtain ⟨rfl, hy⟩ := he'
      refine ⟨hone b (.cells (R.all (gs.set j g' ++ ys)).toArray e (0, 0)), ⟨by simp, .inr ⟨b, ys, rfl, hm, rfl⟩⟩, ?_, fun b' hb => .inl (by rw [hone_ne hb, hone_self]; simp), fun b' _ hb => setRow_other w b b' _ (by rintro rfl; rw [hone_self] at hb; cases hb)⟩
      have e1 : gs.set j g' ++ ys = (gs ++ ys).set j g' := by rw [List.set_append_left _ _ hj]
      rw [e1, all_set (by simp; omega)]
      exact Sub.of_one (setRow_heap w b _ _ e (0, 0) hs.one)
/-- an element, whole -/
theorem ge {x y : Operand} {t e : TypeId} {sv : Sv} {m sz : Nat} {i : Int} {u : Value} {g' : G} {s' : List Cs} {F : Assn → List Assn} (hx : eev E x = some (.pointer (some (el sv.A m sv.c sz i)))) (hy : eev E y = some u) [hr : FRow L sv m e R gs] [hs : SzIs R sz] [hI : Ix i m] [hsg : Sg u s'] (hg : R.sg g' = s') (hz : szB P t = some (lenS s')) [hF : UpdF L (rw_ e R sv m gs) F] (hD : Dm w0 X ops s (F (rw_ e R sv m (gs.set i.toNat g'))))
    (k : GO P n w0 X (nextM s) ops rest Q E (F (rw_ e R sv m (gs.set i.toNat g')))) : GO P n w0 X s ops (⟨none, .store t x y, ty, pos, aft, none⟩ :: rest) Q E L := by
  refine go_hv (ρ := Unit) (E' := fun _ => E) (L' := fun _ => F (rw_ e R sv m (gs.set i.toNat g'))) (φ := fun _ => True) rfl (fun w hw rest Q k => ?_) (fun _ _ => hD) (fun _ _ => k)
  have hI' := hI.h
  obtain ⟨h1, h2, h3⟩ := hsg.h
  have hszz := hs.h; subst hszz
  obtain ⟨i0, hi0, hF0⟩ := hF.get
  obtain ⟨b, cur, hA, hheap, hfit, _, _, hst⟩ := row_set (g' := g') (j := i.toNat) (by omega) hi0 hw
  have hst' : St w0 X (F (rw_ e R sv m (gs.set i.toNat g'))) (w.setRow b (splice cur.toList (i.toNat * R.sz) (flat (R.sg g'))).toArray) := by
    rw [hF0]; exact hst.set (List.getElem?_eq_some_iff.1 hi0).1
  have hcs : u.cells.size = lenS s' := by rw [← Array.length_toList, h1, flat_len h2]
  have hlen : lenS s' = R.sz := by rw [← hg]; exact (R.ok g').2.1
  refine tl_skip (fun a ha => ?_) (k () _ trivial hst')
  rw [hA] at hx
  rw [el_eq, Nat.zero_add] at hx
  have := run_storeVar (P := P) (w := w) (t := t) (tt := e) (g := b) (o := i.toNat * R.sz) (cur := cur) (v := u) (by rw [hcs]; exact hz) hheap (by rw [hcs, hlen]; exact hfit) (by rw [h1]; exact h3)
  simp only [execOp, ha.ev hx, ha.ev hy, Instr.storeAt, Instr.sureAddr, Sem.run_bind, Sem.run_pure, Result.andThen_ok, this, h1, hg]
/-- a part of an element -/
theorem gep {x y : Operand} {t e : TypeId} {p : Addr} {sv : Sv} {m sz off : Nat} {i : Int} {u : Value} [Inhabited G] (g' : G) {s' : List Cs} {F : Assn → List Assn} (hx : eev E x = some (.pointer (some p))) (hy : eev E y = some u) [hpt : PtrN p sv.A m sv.c sz i off] [hr : FRow L sv m e R gs] [hs : SzIs R sz] [hI : Ix i m] [hsg : Sg u s'] (hg : putS (R.sg (ixd gs i)) off s' = some (R.sg g')) (hz : szB P t = some (lenS s')) [hF : UpdF L (rw_ e R sv m gs) F] (hD : Dm w0 X ops s (F (rw_ e R sv m (gs.set i.toNat g'))))
    (k : GO P n w0 X (nextM s) ops rest Q E (F (rw_ e R sv m (gs.set i.toNat g')))) : GO P n w0 X s ops (⟨none, .store t x y, ty, pos, aft, none⟩ :: rest) Q E L := by
  refine go_hv (ρ := Unit) (E' := fun _ => E) (L' := fun _ => F (rw_ e R sv m (gs.set i.toNat g'))) (φ := fun _ => True) rfl (fun w hw rest Q k => ?_) (fun _ _ => hD) (fun _ _ => k)
  have hI' := hI.h
  obtain ⟨h1, h2, h3⟩ := hsg.h
  have hszz := hs.h; subst hszz
  obtain ⟨i0, hi0, hF0⟩ := hF.get
  obtain ⟨b, cur, hA, hheap, hfit, hgl, hcells, hst⟩ := row_set (g' := g') (j := i.toNat) (by omega) hi0 hw
  have hst' : St w0 X (F (rw_ e R sv m (gs.set i.toNat g'))) (w.setRow b (splice cur.toList (i.toNat * R.sz) (flat (R.sg g'))).toArray) := by
    rw [hF0]; exact hst.set (List.getElem?_eq_some_iff.1 hi0).1
  have hcs : u.cells.size = lenS s' := by rw [← Array.length_toList, h1, flat_len h2]
  obtain ⟨e1, e2, e3, e4⟩ := putS_ok (R.ok _).1 h2 hg
  have e5 : lenS (R.sg (ixd gs i)) = R.sz := (R.ok _).2.1
  refine tl_skip (fun a ha => ?_) (k () _ trivial hst')
  rw [hpt.h, hA, el_eq, Nat.zero_add, Addr.add_lit] at hx
  have := run_storeVar (P := P) (w := w) (t := t) (tt := e) (g := b) (o := i.toNat * R.sz + off) (cur := cur) (v := u) (by rw [hcs]; exact hz) hheap (by rw [hcs]; omega) (by rw [h1]; exact h3)
  simp only [execOp, ha.ev hx, ha.ev hy, Instr.storeAt, Instr.sureAddr, Sem.run_bind, Sem.run_pure, Result.andThen_ok, this, h1]
  congr 2
  -- the cells of the part, laid into the row, are the row with the whole element laid
  have hix : gs.getD i.toNat g' = ixd gs i := by
    have : i.toNat < gs.length := by omega
    simp [ixd, this]
  rw [hix] at hcells
  have hfl : (flat (R.sg (ixd gs i))).length = R.sz := Rep.flen _
  have hfl' : (flat (R.sg g')).length = R.sz := Rep.flen _
  have hcl : cur.toList.length = cur.size := Array.length_toList
  have hsl : (flat s').length = lenS s' := flat_len h2
  have key : splice cur.toList (i.toNat * R.sz + off) (flat s') = splice cur.toList (i.toNat * R.sz) (flat (R.sg g')) := by
    rw [← e1]
    apply List.ext_getElem?
    intro q
    have hin : (splice (flat (R.sg (ixd gs i))) off (flat s')).length = R.sz := by rw [splice_len (by omega)]; exact hfl
    rw [splice_get (cs := cur.toList) (vs := flat s') (o := i.toNat * R.sz + off) (by omega) q, splice_get (cs := cur.toList) (vs := splice (flat (R.sg (ixd gs i))) off (flat s')) (o := i.toNat * R.sz) (by omega) q, hin]
    by_cases q1 : q < i.toNat * R.sz
    · rw [if_pos (by omega), if_pos q1]
    · rw [if_neg q1]
      by_cases q2 : q < i.toNat * R.sz + R.sz
      · rw [if_pos q2, splice_get (cs := flat (R.sg (ixd gs i))) (vs := flat s') (o := off) (by omega)]
        have h6 : q - i.toNat * R.sz < (flat (R.sg (ixd gs i))).length := by omega
        have h7 := hcells (q - i.toNat * R.sz) _ (List.getElem?_eq_getElem h6)
        have h8 : i.toNat * R.sz + (q - i.toNat * R.sz) = q := by omega
        rw [h8, ← List.getElem?_eq_getElem h6] at h7
        have h7' : cur.toList[q]? = (flat (R.sg (ixd gs i)))[q - i.toNat * R.sz]? := by rw [Array.getElem?_toList]; exact h7
        by_cases q3 : q < i.toNat * R.sz + off
        · rw [if_pos q3, if_pos (show q - i.toNat * R.sz < off by omega)]; exact h7'
        · rw [if_neg q3, if_neg (show ¬ q - i.toNat * R.sz < off by omega)]
          by_cases q4 : q < i.toNat * R.sz + off + (flat s').length
          · rw [if_pos q4, if_pos (show q - i.toNat * R.sz < off + (flat s').length by omega)]; congr 1; omega
          · rw [if_neg q4, if_neg (show ¬ q - i.toNat * R.sz < off + (flat s').length by omega)]; exact h7'
      · rw [if_neg q2, if_neg (by omega), if_neg (by omega)]
  rw [key]
/-! slices that grow -/
theorem zeroCells_all {z : Value} {g0 : G} (hz : z.cells.toList = flat (R.sg g0)) (n : Nat) : (Builtin.zeroCells z.cells n).toList = R.all (List.replicate n g0) := by
  have hzs : z.cells.size = R.sz := by rw [← Array.length_toList, hz, Rep.flen]
  have hlen2 : (R.all (List.replicate n g0)).length = n * R.sz := by rw [Rep.len]; simp
  apply List.ext_getElem?
  intro q
  by_cases hq : q < n * R.sz
  · have hlt : q / R.sz < n := Nat.div_lt_of_lt_mul (by rw [Nat.mul_comm]; exact hq)
    have hmod : q % R.sz < R.sz := Nat.mod_lt _ R.pos
    have h1 := Rep.at_ (R := R) (gs := List.replicate n g0) (i := q / R.sz) (off := q % R.sz) (by simpa using hlt) (u := (flat (R.sg g0))[q % R.sz]'(by rw [Rep.flen]; exact hmod)) (by simp)
    have hqe : q / R.sz * R.sz + q % R.sz = q := by have := Nat.div_add_mod q R.sz; rw [Nat.mul_comm] at this; exact this
    rw [hqe] at h1
    rw [h1, Array.getElem?_toList]
    have hb' : q % R.sz < z.cells.size := by rw [hzs]; exact hmod
    simp only [Builtin.zeroCells, Array.getElem?_map, Array.getElem?_range, hzs, if_pos hq, Option.map_some]
    rw [getElem!_pos z.cells (q % R.sz) hb', ← Array.getElem_toList]
    simp only [hz]
  · rw [List.getElem?_eq_none (by simp [Builtin.zeroCells, hzs]; omega), List.getElem?_eq_none (by omega)]
/-- what is appended: how append runs onto a row of the call's own -/
structure AppR (P : Program) (t tx ty e : TypeId) (sz bytes : Nat) (x : Value) (k : Nat) (news : List Value) (z : Value) (w : World) : Prop where
  room : ∀ (g m cap : Nat) (cur : Array Value), w.heap[g]? = some (.cells cur e (0, 0)) → m + k ≤ cap → m * sz + news.length ≤ cur.size →
    (Builtin.append_ #[t, tx] ty #[.slice (some ⟨g, 0, none⟩) m cap, x]).run P w = .ok (.slice (some ⟨g, 0, none⟩) (m + k) cap) (w.setRow g (cur.toList.take (m * sz) ++ news ++ cur.toList.drop (m * sz + news.length)).toArray)
  none0 : k = 0 → (Builtin.append_ #[t, tx] ty #[.slice none 0 0, x]).run P w = .ok (.slice none 0 0) w
  grow : ∀ (base : Option Addr) (m cap : Nat) (olds : List Value), (Builtin.firstCells sz m (.slice base m cap)).run P w.drew = .ok olds.toArray w.drew → cap < m + k → 0 < k → m + k ≤ 9223372036854775807 → (m + k) * bytes ≤ 140737488355328 →
    (Builtin.append_ #[t, tx] ty #[.slice base m cap, x]).run P w = .ok (.slice (some ⟨w.heap.size, 0, none⟩) (m + k) (grownCap w (m + k) cap e)) (w.drew.alloc (.cells ((olds ++ news).toArray ++ Builtin.zeroCells z.cells (grownCap w (m + k) cap e - (m + k))) e))
theorem row_app {t tx ty e : TypeId} {bytes m k : Nat} {sv : Sv} {x : Value} {gs' : List G} {g0 : G} {z : Value} {w : World} {i : Nat} (hi : L[i]? = some (rw_ e R sv m gs)) (hk : gs'.length = k) (hz : z.cells.toList = flat (R.sg g0)) (ha : AppR P t tx ty e R.sz bytes x k (R.all gs') z w)
    (hb : (m + k) * bytes ≤ 140737488355328) (h63 : m + k ≤ maxLen) (hw : St w0 X L w) :
    ∃ s' w', (Builtin.append_ #[t, tx] ty #[sl sv m, x]).run P w = .ok (sl s' (m + k)) w' ∧ St w0 X (rw_ e R s' (m + k) (gs ++ gs') :: L.eraseIdx i) w' := by
  have h63' : m + k ≤ 9223372036854775807 := by simpa [maxLen] using h63
  obtain ⟨kk, ⟨hl, hrow⟩, hs⟩ := hw.get hi
  subst hk
  have grown : ∀ (base : Option Addr) (cap : Nat), (cap < m + gs'.length) → sv = ⟨base, cap⟩ → (Builtin.firstCells R.sz m (.slice base m cap)).run P w.drew = .ok (R.all gs).toArray w.drew → 0 < gs'.length →
      ∃ s' w', (Builtin.append_ #[t, tx] ty #[sl sv m, x]).run P w = .ok (sl s' (m + gs'.length)) w' ∧ St w0 X (rw_ e R s' (m + gs'.length) (gs ++ gs') :: L.eraseIdx i) w' := by
    intro base cap hc he hf hp
    have hge := grownCap_ge w (m + gs'.length) cap e
    have hcm : grownCap w (m + gs'.length) cap e ≤ maxLen := grownCap_le_maxLen w _ _ e h63
    have hr := ha.grow base m cap (R.all gs) hf hc hp h63' hb
    refine ⟨⟨some ⟨w.heap.size, 0, none⟩, grownCap w (m + gs'.length) cap e⟩, _, by rw [he]; exact hr, ?_⟩
    refine hw.stepT hi rfl ⟨rfl, Nat.le_succ _⟩ rfl (by simp) fun k hk hs' => ⟨hone w.heap.size _, ⟨by simp [hl], .inr ⟨w.heap.size, List.replicate (grownCap w (m + gs'.length) cap e - (m + gs'.length)) g0, ?_, ?_, rfl⟩⟩, ?_, fun b hb => .inr (by rw [hone_ne hb]; exact Nat.le_refl _), fun b hb _ => Below.heap_alloc w.drew _ b hb⟩
    · rw [List.length_replicate]; congr 1; omega
    · rw [List.length_replicate]; omega
    · have := heap_alloc_new w.drew (.cells (((R.all gs) ++ R.all gs').toArray ++ Builtin.zeroCells z.cells (grownCap w (m + gs'.length) cap e - (m + gs'.length))) e)
      refine Sub.of_one ?_
      have e1 : (R.all (gs ++ gs' ++ List.replicate (grownCap w (m + gs'.length) cap e - (m + gs'.length)) g0)).toArray = (((R.all gs) ++ R.all gs').toArray ++ Builtin.zeroCells z.cells (grownCap w (m + gs'.length) cap e - (m + gs'.length))) := by
        apply Array.ext'
        rw [Array.toList_append, zeroCells_all hz, Rep.all_append, Rep.all_append]
      rw [e1]; exact this
  rcases hrow with ⟨rfl, rfl⟩ | ⟨g, ys, rfl, hm, rfl⟩
  · obtain rfl := List.eq_nil_of_length_eq_zero hl
    by_cases h0 : gs'.length = 0
    · obtain rfl := List.eq_nil_of_length_eq_zero h0
      refine ⟨⟨none, 0⟩, w, ha.none0 rfl, ?_⟩
      exact hw.front' hi
    · exact grown none 0 (by omega) rfl (run_firstCells_none w.drew R.sz 0 0 0) (by omega)
  · by_cases hroom : m + gs'.length ≤ m + ys.length
    · have hlen : (R.all (gs ++ ys)).length = m * R.sz + ys.length * R.sz := by rw [Rep.len, List.length_append, hl, Nat.add_mul]
      have hle : gs'.length * R.sz ≤ ys.length * R.sz := Nat.mul_le_mul_right _ (by omega)
      have hr := ha.room g m _ _ hs.one hroom (by rw [List.size_toArray, hlen, Rep.len]; omega)
      refine ⟨⟨some ⟨g, 0, none⟩, m + ys.length⟩, _, hr, ?_⟩
      refine hw.step hi rfl rfl rfl (by simp) fun k hk' hs' => ?_
      obtain ⟨_, hk2⟩ := hk'
      rcases hk2 with ⟨h0, _⟩ | ⟨b', ys', he', hm', rfl⟩
      · cases h0
      simp only [Sv.mk.injEq, Option.some.injEq, Addr.mk.injEq, and_true] at he'
      obtain ⟨rfl, hy⟩ := he'
      refine ⟨hone g (.cells (R.all (gs ++ gs' ++ ys.drop gs'.length)).toArray e (0, 0)), ⟨by simp [hl], .inr ⟨g, ys.drop gs'.length, by simp; omega, by simp; omega, rfl⟩⟩, ?_, fun b' hb => .inl (by rw [hone_ne hb, hone_self]; simp), fun b' _ hb => setRow_other w g b' _ (by rintro rfl; rw [hone_self] at hb; cases hb)⟩
      have e1 : R.all (gs ++ gs' ++ ys.drop gs'.length) = (R.all (gs ++ ys)).toArray.toList.take (m * R.sz) ++ R.all gs' ++ (R.all (gs ++ ys)).toArray.toList.drop (m * R.sz + (R.all gs').length) := by
        have h1 : (R.all (gs ++ ys)).toArray.toList = R.all (gs ++ ys) := rfl
        rw [h1, ← hl, Rep.all_take, List.take_left, Rep.len, ← Nat.add_mul, Rep.all_drop, List.drop_append, List.drop_eq_nil_of_le (Nat.le_add_right _ _), Nat.add_sub_cancel_left]
        simp [Rep.all_append]
      rw [e1]
      exact Sub.of_one (setRow_heap w g _ _ e (0, 0) hs.one)
    · refine grown _ _ (by omega) rfl ?_ (by omega)
      refine run_firstCells_some w.drew R.sz m ⟨g, 0, none⟩ m _ (R.all gs) (by rw [Rep.len, hl]) fun j v hj => ?_
      rw [Addr.add_lit]
      have h1 : w.drew.cell? ⟨g, 0 + j, none⟩ = w.cell? ⟨g, 0 + j, none⟩ := rfl
      rw [h1, Nat.zero_add, cell_of_row w g j _ e (0, 0) hs.one]
      simp only [List.getElem?_toArray, Rep.all_append]
      rw [List.getElem?_append_left (List.getElem?_eq_some_iff.1 hj).1]; exact hj
theorem appR_slice {t ty e : TypeId} {bytes k c : Nat} {B : Option Addr} {gs' : List G} {z : Value} {info : TypeInfo} {w : World} (hr : Slr w R (.slice B k c) gs') (hk : gs'.length = k) (ht : P.underlying t = some (.slice e)) (hinf : P.info? e = some info) (hz : info.zero = some z) (hsz : info.size = R.sz) (hby : info.bytes = bytes) :
    AppR P t t ty e R.sz bytes (.slice B k c) k (R.all gs') z w := by
  subst hk
  obtain ⟨B', c', e', h1, h2, h3, hrd⟩ := hr
  cases e'
  have hsrc : Src P info.size t (.slice B gs'.length c) gs'.length (R.all gs') w := by
    rw [hsz]
    rcases B with _ | a
    · have h0 : gs' = [] := by
        rcases Nat.eq_zero_or_pos gs'.length with h | h
        · exact List.eq_nil_of_length_eq_zero h
        · obtain ⟨b, o, e0, _⟩ := hrd (by rw [Rep.len]; exact Nat.mul_pos h R.pos); cases e0
      subst h0
      exact Src.ofNil w ht c
    · refine Src.ofSlice w ht a _ c (R.all gs') (by rw [Rep.len]) (fun j u hj => ?_) (Rep.one gs')
      obtain ⟨b, o, e0, hc⟩ := hrd (by have := (List.getElem?_eq_some_iff.1 hj).1; omega)
      cases e0
      rw [Addr.add_lit]; exact hc j u hj
  refine ⟨fun g m cap cur hg hroom hfit => ?_, fun h0 => ?_, fun base m cap olds hf hc hp h63 hb => ?_⟩
  · rcases B with _ | a
    · have h0 : gs' = [] := by
        rcases Nat.eq_zero_or_pos gs'.length with h | h
        · exact List.eq_nil_of_length_eq_zero h
        · obtain ⟨b, o, e0, _⟩ := hrd (by rw [Rep.len]; exact Nat.mul_pos h R.pos); cases e0
      subst h0
      have e1 : (cur.toList.take (m * R.sz) ++ R.all ([] : List G) ++ cur.toList.drop (m * R.sz + (R.all ([] : List G)).length)).toArray = cur := by
        rw [Rep.all_nil, List.append_nil, List.length_nil, Nat.add_zero, List.take_append_drop, Array.toArray_toList]
      rw [e1, setRow_self w g cur e (0, 0) hg]
      have hmc : m ≤ cap := by omega
      simp [Builtin.append_, run_underlying ht, sizeOf, typeInfo, hinf, Builtin.lenOf, Builtin.firstCells, hmc, storeCells]
    · have := run_append_room (P := P) w t ty e info ht hinf g m cap cur hg a _ c (R.all gs') (by rw [Rep.len, hsz]) (fun j u hj => by
        obtain ⟨b, o, e0, hc⟩ := hrd (by have := (List.getElem?_eq_some_iff.1 hj).1; omega)
        cases e0
        rw [Addr.add_lit]; exact hc j u hj) (Rep.one gs') hroom (by rw [hsz]; exact hfit)
      rw [hsz] at this; exact this
  · obtain rfl := List.eq_nil_of_length_eq_zero h0
    rcases B with _ | a
    · simp [Builtin.append_, run_underlying ht, sizeOf, typeInfo, hinf, Builtin.lenOf, Builtin.firstCells]
    · simp [Builtin.append_, run_underlying ht, sizeOf, typeInfo, hinf, Builtin.lenOf, Builtin.firstCells, loadCells, loadCellsFrom]
  · have := run_append_grow_src (P := P) w t t ty e info z ht hinf hz base m cap olds (by rw [hsz]; exact hf) (.slice B gs'.length c) gs'.length (R.all gs') hsrc hc (by omega) (growslice_fits hc (by rw [hby]; exact hb))
    exact this
theorem run_zeros_room {w : World} (t tn ty e : TypeId) (info : TypeInfo) (z : Value) (kq kn : IntKind) (ht : P.underlying t = some (.slice e)) (htn : P.underlying tn = some (.int kn)) (hi : P.info? e = some info) (hz : info.zero = some z) (hzs : z.cells.size = info.size) (h1 : ∀ u ∈ z.cells.toList, u.oneCell' = true)
    (g sLen sCap k : Nat) (cur : Array Value) (hg : w.heap[g]? = some (.cells cur e (0, 0))) (hroom : sLen + k ≤ sCap) (hk : (k : Int) ≤ 9223372036854775807) (h48 : k * info.bytes ≤ 281474976710656) (hpos : 0 < info.size)
    (hfit : sLen * info.size + k * info.size ≤ cur.size) :
    (Builtin.append_ #[t, tn] ty #[.slice (some ⟨g, 0, none⟩) sLen sCap, .int kq k]).run P w = .ok (.slice (some ⟨g, 0, none⟩) (sLen + k) sCap) (w.setRow g (cur.toList.take (sLen * info.size) ++ (Builtin.zeroCells z.cells k).toList ++ cur.toList.drop (sLen * info.size + (Builtin.zeroCells z.cells k).toList.length)).toArray) := by
  have hw : IntKind.i64.wrap (k : Int) = k := by rw [IntKind.wrap_i64]; omega
  have h48i : ¬ (281474976710656 < (k : Int) * (info.bytes : Int)) := by rw [← Int.natCast_mul]; omega
  have hneg : ¬ ((k : Int) < 0) := by omega
  have hzl : (Builtin.zeroCells z.cells k).size = k * info.size := by rw [size_zeroCells, hzs]
  have hst := run_storeCells_at P g (sLen * info.size) e (Builtin.zeroCells z.cells k).toList 0 cur w hg (by rw [Array.length_toList, hzl]; simpa using hfit) (fun u hu => by
    simp only [Builtin.zeroCells, Array.toList_map, Array.toList_range, List.mem_map, List.mem_range] at hu
    obtain ⟨j, hj, rfl⟩ := hu
    have hb' : j % z.cells.size < z.cells.size := Nat.mod_lt _ (by omega)
    rw [getElem!_pos z.cells _ hb']
    exact h1 _ (by rw [← Array.getElem_toList]; exact List.getElem_mem _))
  simp only [Nat.add_zero] at hst
  by_cases h0 : k = 0
  · subst h0
    have e1 : (cur.toList.take (sLen * info.size) ++ (Builtin.zeroCells z.cells 0).toList ++ cur.toList.drop (sLen * info.size + (Builtin.zeroCells z.cells 0).toList.length)).toArray = cur := by
      simp [Builtin.zeroCells]
    rw [e1, setRow_self w g cur e (0, 0) hg]
    have hmc : sLen ≤ sCap := by omega
    have hw0 : IntKind.i64.wrap 0 = 0 := by rw [IntKind.wrap_i64]; omega
    simp [Builtin.append_, run_underlying ht, run_underlying htn, sizeOf, typeInfo, hi, asInt, asIntOf, hw0, hmc, storeCells]
  · have hns : ¬ (k * info.size = 0) := Nat.mul_ne_zero h0 (by omega)
    simp [Builtin.append_, run_underlying ht, run_underlying htn, sizeOf, typeInfo, zeroValue, hi, hz, asInt, asIntOf, hw, hneg, hns, h48i, hroom, Addr.add_lit, hst]
theorem appR_zeros {t tn ty e : TypeId} {bytes k : Nat} {kq kn : IntKind} {g0 : G} {z : Value} {info : TypeInfo} {w : World} (ht : P.underlying t = some (.slice e)) (htn : P.underlying tn = some (.int kn)) (hinf : P.info? e = some info) (hz : info.zero = some z) (hsz : info.size = R.sz) (hby : info.bytes = bytes) (hzc : z.cells.toList = flat (R.sg g0)) (hk : k * bytes ≤ 140737488355328) (hk63 : (k : Int) ≤ 9223372036854775807) :
    AppR P t tn ty e R.sz bytes (.int kq k) k (R.all (List.replicate k g0)) z w := by
  have hzs : z.cells.size = info.size := by rw [← Array.length_toList, hzc, Rep.flen, hsz]
  have hpos := R.pos
  have hz1 := zeroCells_all hzc k
  refine ⟨fun g m cap cur hg hroom hfit => ?_, fun h0 => ?_, fun base m cap olds hf hc hp h63 hb => ?_⟩
  · have := run_zeros_room (P := P) t tn ty e info z kq kn ht htn hinf hz hzs (fun u hu => by rw [hzc] at hu; exact oneB_mem (R.ok g0).2.2 u hu) g m cap k cur hg hroom hk63 (by rw [hby]; omega) (by omega) (by rw [Rep.len, List.length_replicate] at hfit; rw [hsz]; exact hfit)
    rw [hz1, hsz] at this; exact this
  · subst h0
    have hw0 : IntKind.i64.wrap 0 = 0 := by rw [IntKind.wrap_i64]; omega
    simp [Builtin.append_, run_underlying ht, run_underlying htn, sizeOf, typeInfo, hinf, asInt, asIntOf, hw0]
  · have := Lib.run_append_grow_zeros (P := P) w t tn ty e info z kq kn ht htn hinf hz base m cap olds (by rw [hsz]; exact hf) k hp (by omega) hc (by omega) (by rw [hby]; omega) (growslice_fits hc (by rw [hby]; exact hb))
    rw [this]
    congr 3
    apply Array.ext'
    simp [hz1]
theorem ZE.info {e : TypeId} {g0 : G} {sz bytes : Nat} (hz : ZE P e R g0) (hE : EL P e sz bytes) : ∃ info z, P.info? e = some info ∧ info.zero = some z ∧ info.size = R.sz ∧ info.bytes = bytes ∧ z.cells.toList = flat (R.sg g0) := by
  obtain ⟨info, z, hinf, hzi, hsz, hby, hzs, hpos⟩ := hE.h
  obtain ⟨zv, hzv, hzc⟩ := Option.map_eq_some_iff.1 hz.h
  have ezv : zv = z := by unfold zeroB at hzv; rw [hinf] at hzv; simp only [Option.bind_some] at hzv; rw [hzi] at hzv; exact (Option.some.inj hzv).symm
  subst ezv
  exact ⟨info, zv, hinf, hzi, by rw [← Rep.flen (R := R) g0, ← hzc, Array.length_toList, hzs, hsz], hby, hzc⟩
theorem row_append {t ty e : TypeId} {sz bytes m k c : Nat} {sv : Sv} {B : Option Addr} {gs' : List G} {g0 : G} {w : World} {i : Nat} (hi : L[i]? = some (rw_ e R sv m gs)) (hr : Rw w0 X L (.slice B k c) R gs') (ht : P.underlying t = some (.slice e)) (hz : ZE P e R g0) (hE : EL P e sz bytes) (hb : (m + k) * bytes ≤ 140737488355328) (h63 : m + k ≤ maxLen) (hw : St w0 X L w) :
    ∃ s' w', (Builtin.append_ #[t, t] ty #[sl sv m, .slice B k c]).run P w = .ok (sl s' (m + k)) w' ∧ St w0 X (rw_ e R s' (m + k) (gs ++ gs') :: L.eraseIdx i) w' := by
  obtain ⟨info, z, hinf, hzi, hsz, hby, hzc⟩ := hz.info hE
  exact row_app hi (hr.len hw) hzc (appR_slice (hr.get w hw) (hr.len hw) ht hinf hzi hsz hby) hb h63 hw
theorem gap {sx x : Operand} {t e : TypeId} {sz bytes m k c : Nat} {sv : Sv} {B : Option Addr} {gs' : List G} {g0 : G} {F : Assn → List Assn} (hs : eev E sx = some (.slice sv.A m sv.c)) (hx : eev E x = some (.slice B k c)) [hr : FRow L sv m e R gs] [hr' : Rw w0 X L (.slice B k c) R gs'] (ht : P.underlying t = some (.slice e)) [hE : EL P e sz bytes] [hz0 : ZE P e R g0] [hz : SzIs R sz] [hF : UpdF L (rw_ e R sv m gs) F]
    (hb : (m + k) * bytes ≤ 140737488355328 ∧ m + k ≤ 9223372036854775807) (hd : Nat.blt d n = true) (hD : ∀ s' : Sv, Dm w0 X ops s (F (rw_ e R s' (m + k) (gs ++ gs'))))
    (kk : ∀ s' : Sv, GO P n w0 X (nextM s) ops rest Q ((d, .slice s'.A (m + k) s'.c) :: E) (F (rw_ e R s' (m + k) (gs ++ gs')))) :
    GO P n w0 X s ops (⟨some d, .call { callee := .builtin .append, args := #[sx, x], argTypes := #[t, t] }, ty, pos, aft, none⟩ :: rest) Q E L := by
  refine go_hv (ρ := Sv) (φ := fun _ => True) rfl (fun w hw rest Q k' => ?_) (fun s' _ => hD s') (fun s' _ => kk s')
  obtain ⟨i, hi, hF0⟩ := hF.get
  obtain ⟨s', w', hrun, hst⟩ := row_append (ty := ty) hi hr' ht hz0 hE hb.1 (by simp only [maxLen]; omega) hw
  refine tl_run (fun a ha => by
    simp only [execOp, resolve, invoke, builtin, Sem.run_bind, Sem.run_pure, Result.andThen_ok, List.map_toArray, List.map_cons, List.map_nil, ha.ev hs, ha.ev hx, hrun]) hd (k' s' w' trivial ?_)
  rw [hF0]; exact hst.set (List.getElem?_eq_some_iff.1 hi).1
/-- so many zero elements more -/
theorem gapz {sx x : Operand} {t tn e : TypeId} {sz bytes m : Nat} {i : Int} {kq kn : IntKind} {sv : Sv} {g0 : G} {F : Assn → List Assn} (hs : eev E sx = some (.slice sv.A m sv.c)) (hx : eev E x = some (.int kq i)) [hr : FRow L sv m e R gs] (ht : P.underlying t = some (.slice e)) (htn : P.underlying tn = some (.int kn)) [hE : EL P e sz bytes] [hz0 : ZE P e R g0] [hz : SzIs R sz] [hF : UpdF L (rw_ e R sv m gs) F]
    (hb : 0 ≤ i ∧ (m + i.toNat) * bytes ≤ 140737488355328 ∧ i.toNat * bytes ≤ 140737488355328 ∧ m + i.toNat ≤ 9223372036854775807) (hd : Nat.blt d n = true) (hD : ∀ s' : Sv, Dm w0 X ops s (F (rw_ e R s' (m + i.toNat) (gs ++ List.replicate i.toNat g0))))
    (kk : ∀ s' : Sv, GO P n w0 X (nextM s) ops rest Q ((d, .slice s'.A (m + i.toNat) s'.c) :: E) (F (rw_ e R s' (m + i.toNat) (gs ++ List.replicate i.toNat g0)))) :
    GO P n w0 X s ops (⟨some d, .call { callee := .builtin .append, args := #[sx, x], argTypes := #[t, tn] }, ty, pos, aft, none⟩ :: rest) Q E L := by
  refine go_hv (ρ := Sv) (φ := fun _ => True) rfl (fun w hw rest Q k' => ?_) (fun s' _ => hD s') (fun s' _ => kk s')
  obtain ⟨j, hi, hF0⟩ := hF.get
  obtain ⟨info, z, hinf, hzi, hsz, hby, hzc⟩ := hz0.info hE
  have ei : (i.toNat : Int) = i := by omega
  obtain ⟨s', w', hrun, hst⟩ := row_app (ty := ty) hi (by simp) hzc (appR_zeros (kq := kq) (k := i.toNat) ht htn hinf hzi hsz hby hzc hb.2.2.1 (by omega)) hb.2.1 (by simp only [maxLen]; omega) hw
  rw [ei] at hrun
  refine tl_run (fun a ha => by
    simp only [execOp, resolve, invoke, builtin, Sem.run_bind, Sem.run_pure, Result.andThen_ok, List.map_toArray, List.map_cons, List.map_nil, ha.ev hs, ha.ev hx, hrun]) hd (k' s' w' trivial ?_)
  rw [hF0]; exact hst.set (List.getElem?_eq_some_iff.1 hi).1
theorem nil_row {w : World} (hw : St w0 X L w) (e : TypeId) (R : Rep G) : St w0 X (rw_ e R ⟨none, 0⟩ 0 [] :: L) w :=
  hw.grow rfl rfl rfl (Nat.le_refl _) (fun _ _ => rfl) ⟨hemp, ⟨rfl, .inl ⟨rfl, rfl⟩⟩, fun _ _ h => by simp [hemp] at h, fun b h => absurd rfl h⟩
/-- onto nil -/
theorem gan {sx x : Operand} {t e : TypeId} {sz bytes k c : Nat} {B : Option Addr} {gs' : List G} {g0 : G} (hs : eev E sx = some (.slice none 0 0)) (hx : eev E x = some (.slice B k c)) [hr' : Rw w0 X L (.slice B k c) R gs'] (ht : P.underlying t = some (.slice e)) [hE : EL P e sz bytes] [hz0 : ZE P e R g0] [hz : SzIs R sz]
    (hb : k * bytes ≤ 140737488355328 ∧ k ≤ 9223372036854775807) (hd : Nat.blt d n = true) (hD : ∀ s' : Sv, Dm w0 X ops s (rw_ e R s' k gs' :: L))
    (kk : ∀ s' : Sv, GO P n w0 X (nextM s) ops rest Q ((d, .slice s'.A k s'.c) :: E) (rw_ e R s' k gs' :: L)) :
    GO P n w0 X s ops (⟨some d, .call { callee := .builtin .append, args := #[sx, x], argTypes := #[t, t] }, ty, pos, aft, none⟩ :: rest) Q E L := by
  refine go_hv (ρ := Sv) (φ := fun _ => True) rfl (fun w hw rest Q k' => ?_) (fun s' _ => hD s') (fun s' _ => kk s')
  have hr2 : Rw w0 X (rw_ e R ⟨none, 0⟩ 0 [] :: L) (.slice B k c) R gs' := ⟨fun w hw => hr'.get w hw.tail⟩
  obtain ⟨s', w', hrun, hst⟩ := row_append (ty := ty) (i := 0) (sv := ⟨none, 0⟩) (m := 0) (gs := []) rfl hr2 ht hz0 hE (by rw [Nat.zero_add]; exact hb.1) (by simp only [maxLen]; omega) (nil_row hw e R)
  have hrun' : (Builtin.append_ #[t, t] ty #[.slice none 0 0, .slice B k c]).run P w = .ok (.slice s'.A k s'.c) w' := by simpa only [sl, Nat.zero_add] using hrun
  refine tl_run (fun a ha => by
    simp only [execOp, resolve, invoke, builtin, Sem.run_bind, Sem.run_pure, Result.andThen_ok, List.map_toArray, List.map_cons, List.map_nil, ha.ev hs, ha.ev hx, hrun']) hd (k' s' w' trivial ?_)
  simpa using hst
/-- made: so many zero elements -/
theorem gm {l c : Operand} {t e : TypeId} {sz bytes m : Nat} {kl kc : IntKind} {cap : Int} {g0 : G} (hl : eev E l = some (.int kl (.ofNat m))) (hc : eev E c = some (.int kc cap)) (ht : P.underlying t = some (.slice e)) [hz : ZE P e R g0] [hE : EL P e sz bytes] [hs : SzIs R sz]
    (hb : (m : Int) ≤ cap ∧ (bytes : Int) * cap ≤ 281474976710656 ∧ cap ≤ 9223372036854775807) (hd : Nat.blt d n = true) (hD : ∀ s' : Sv, Dm w0 X ops s (rw_ e R s' m (List.replicate m g0) :: L))
    (kk : ∀ s' : Sv, GO P n w0 X (nextM s) ops rest Q ((d, .slice s'.A m s'.c) :: E) (rw_ e R s' m (List.replicate m g0) :: L)) :
    GO P n w0 X s ops (⟨some d, .makeSlice t l c, ty, pos, aft, none⟩ :: rest) Q E L := by
  refine go_hv (ρ := Sv) (φ := fun _ => True) rfl (fun w hw rest Q k' => ?_) (fun s' _ => hD s') (fun s' _ => kk s')
  obtain ⟨info, z, hinf, hzi, hsz, hby, hzc⟩ := hz.info hE
  have hr := run_make (P := P) w t e info z ht hinf hzi kl kc m cap (by omega) hb.1 (by rw [hby]; exact hb.2.1) hb.2.2
  rw [hsz] at hr
  refine tl_run (fun a ha => by simp only [execOp, ha.ev hl, ha.ev hc, Sem.run_bind, Sem.run_pure]; exact congrArg (fun r => Result.andThen r _) hr) hd (k' ⟨some ⟨w.heap.size, 0, none⟩, cap.toNat⟩ _ trivial ?_)
  have hzs : z.cells.size = R.sz := by rw [← Array.length_toList, hzc, Rep.flen]
  have e1 : (R.all (List.replicate m g0 ++ List.replicate (cap.toNat - m) g0)).toArray = madeCells z.cells (cap.toNat * R.sz) := by
    rw [List.replicate_append_replicate, Nat.add_sub_cancel' (by omega)]
    apply Array.ext'
    have := zeroCells_all hzc cap.toNat
    rw [← hzs]
    exact this.symm
  refine hw.grow rfl rfl rfl (by simp) (fun b hb => Below.heap_alloc w _ b hb) ⟨hone w.heap.size _, ⟨by simp, .inr ⟨w.heap.size, List.replicate (cap.toNat - m) g0, by simp; omega, by simp only [List.length_replicate, maxLen]; omega, rfl⟩⟩, ?_, fun b hb => by rw [hone_ne hb]; exact Nat.le_refl _⟩
  rw [e1]; exact Sub.of_one (heap_alloc_new w _)
/-- empty, with room -/
theorem gm0 {l c : Operand} {t e : TypeId} {sz bytes : Nat} {kl kc : IntKind} {cap : Int} {g0 : G} (hl : eev E l = some (.int kl 0)) (hc : eev E c = some (.int kc cap)) (ht : P.underlying t = some (.slice e)) [hz : ZE P e R g0] [hE : EL P e sz bytes] [hs : SzIs R sz]
    (hb : 0 ≤ cap ∧ (bytes : Int) * cap ≤ 281474976710656 ∧ cap ≤ 9223372036854775807) (hd : Nat.blt d n = true) (hD : ∀ s' : Sv, Dm w0 X ops s (rw_ e R s' 0 [] :: L))
    (kk : ∀ s' : Sv, GO P n w0 X (nextM s) ops rest Q ((d, .slice s'.A 0 s'.c) :: E) (rw_ e R s' 0 [] :: L)) :
    GO P n w0 X s ops (⟨some d, .makeSlice t l c, ty, pos, aft, none⟩ :: rest) Q E L := gm (m := 0) hl hc ht hb hd hD kk
/-- a value as an element -/
class Elm (R : Rep G) (v : Value) (g : outParam G) : Prop where
  h : flat (R.sg g) = v.cells.toList
class Elms (R : Rep G) (i : Nat) (ps : List (Nat × Value)) (gs : outParam (List G)) : Prop where
  h : ps.map (·.1) = (List.range' i gs.length) ∧ ∀ (j : Nat) (p : Nat × Value) (g : G), ps[j]? = some p → gs[j]? = some g → flat (R.sg g) = p.2.cells.toList
instance Elms.nil {i : Nat} : Elms R i [] [] := ⟨rfl, fun i p q h => by simp at h⟩
instance Elms.cons {i : Nat} {v : Value} {g : G} {r : List (Nat × Value)} [h : Elm R v g] [h' : Elms R (i + 1) r gs] : Elms R i ((i, v) :: r) (g :: gs) := ⟨by simp [h'.h.1, List.range'_succ], fun j p q hp hq => by
  cases j with
  | zero => simp at hp hq; subst hp hq; exact h.h
  | succ j => exact h'.h.2 j p q (by simpa using hp) (by simpa using hq)⟩
theorem fill_elms : ∀ {ps : List (Nat × Value)} {gs : List G} {i : Nat} {cs : List Value}, ps.map (·.1) = List.range' i gs.length → (∀ (j : Nat) (p : Nat × Value) (g : G), ps[j]? = some p → gs[j]? = some g → flat (R.sg g) = p.2.cells.toList) → cs.length = (i + gs.length) * R.sz →
    FillP (fun i => some (i * R.sz, R.sz)) cs ps (cs.take (i * R.sz) ++ R.all gs)
  | [], gs, i, cs, hi, _, hl => by
    cases gs with
    | nil => simp only [FillP, Rep.all_nil, List.append_nil]; rw [List.take_of_length_le (by rw [hl]; simp)]
    | cons g gs => simp [List.range'_succ] at hi
  | (j, v) :: ps, gs, i, cs, hi, hall, hl => by
    cases gs with
    | nil => simp at hi
    | cons g gs =>
      simp only [List.map_cons, List.length_cons, List.range'_succ, List.cons.injEq] at hi
      obtain ⟨rfl, hi⟩ := hi
      have h0 := hall 0 _ _ rfl rfl
      simp only at h0
      have hv : v.cells.toList.length = R.sz := by rw [← h0, Rep.flen]
      simp only [List.length_cons] at hl
      have hl2 : cs.length = (j + 1 + gs.length) * R.sz := by rw [hl]; congr 1; omega
      have hle : j * R.sz + R.sz ≤ cs.length := by
        rw [hl2]
        have := Nat.mul_le_mul_right R.sz (show j + 1 ≤ j + 1 + gs.length by omega)
        rwa [Nat.add_mul, Nat.one_mul] at this
      refine ⟨j * R.sz, R.sz, rfl, hv, hle, ?_⟩
      have ih := fill_elms (ps := ps) (gs := gs) (i := j + 1) (cs := splice cs (j * R.sz) v.cells.toList) hi (fun q p g hp hq => hall (q + 1) p g (by simpa using hp) (by simpa using hq)) (by rw [splice_len (by omega)]; exact hl2)
      have e : (splice cs (j * R.sz) v.cells.toList).take ((j + 1) * R.sz) ++ R.all gs = cs.take (j * R.sz) ++ R.all (g :: gs) := by
        have h1 : (splice cs (j * R.sz) v.cells.toList).take ((j + 1) * R.sz) = cs.take (j * R.sz) ++ v.cells.toList := by
          unfold splice
          rw [List.take_append_of_le_length (by simp only [List.length_append, List.length_take]; rw [Nat.add_mul]; omega)]
          exact List.take_of_length_le (by simp only [List.length_append, List.length_take]; rw [Nat.add_mul]; omega)
        rw [h1, ← h0]; simp [Rep.all]
      rw [e] at ih; exact ih
theorem gbs {t e : TypeId} {len sz bytes : Nat} {parts : List (Nat × Operand)} {ps : List (Nat × Value)} (R : Rep G) {gs : List G} (ht : P.underlying t = some (.slice e)) [hE : EL P e sz bytes] [hs : SzIs R sz] (hp : evps E parts = some ps) [hq : Elms R 0 ps gs] (hn : gs.length = len) (hlen : Nat.ble (len * sz) 1000000 = true) (hpos : Nat.beq len 0 = false) (hd : Nat.blt d n = true)
    (hD : ∀ s' : Sv, Dm w0 X ops s (rw_ e R s' len gs :: L)) (kk : ∀ s' : Sv, GO P n w0 X (nextM s) ops rest Q ((d, .slice s'.A len s'.c) :: E) (rw_ e R s' len gs :: L)) :
    GO P n w0 X s ops (⟨some d, .buildSlice t len parts.toArray, ty, pos, aft, none⟩ :: rest) Q E L := by
  refine go_hv (ρ := Sv) (φ := fun _ => True) rfl (fun w hw rest Q k' => ?_) (fun s' _ => hD s') (fun s' _ => kk s')
  obtain ⟨info, z, hinf, hzi, hsz, hby, hzs, hpos'⟩ := hE.h
  have hsR := hs.h
  subst hsR
  have hle := bleT hlen
  have h0 : len ≠ 0 := fun e0 => by subst e0; simp [Nat.beq] at hpos
  have hge : len ≤ len * R.sz := Nat.le_mul_of_pos_right _ R.pos
  have h0' : len * R.sz ≠ 0 := by omega
  have hf := fill_elms (R := R) (ps := ps) (gs := gs) (i := 0) (cs := (List.range (len * R.sz)).map (fun j => z.cells[j % z.cells.size]!)) (by rw [hq.h.1]) hq.h.2 (by simp [hn])
  simp only [Nat.zero_mul, List.take_zero, List.nil_append] at hf
  have h2 := fill_of hf
  have hsB : (sizeOf e).run P w = .ok R.sz w := by simp [sizeOf, typeInfo, hinf, hsz]
  have hzB : (zeroValue e).run P w = .ok z w := by simp [zeroValue, typeInfo, hinf, hzi]
  refine tl_run (w' := w.alloc (.cells (R.all gs).toArray e)) (fun a ha => ?_) hd (k' ⟨some ⟨w.heap.size, 0, none⟩, len⟩ _ trivial ?_)
  · have hm : List.map (fun x : Nat × Operand => (x.1, a.eval x.2)) parts = ps := evps_map ha hp
    have hr : (Array.range (len * R.sz)).map (fun j => z.cells[j % z.cells.size]!) = ((List.range (len * R.sz)).map (fun j => z.cells[j % z.cells.size]!)).toArray := by
      apply Array.ext'; simp
    rw [← hr] at h2
    have hlt : ¬ (16777216 < len * R.sz) := by omega
    simp only [execOp, Instr.buildSlice, Sem.run_bind, run_underlying ht, Result.andThen_ok, hsB]
    simp [hlt, hzB, hm, h2, newRow]
    exact fun e => absurd e h0'
  · refine hw.grow rfl rfl rfl (by simp) (fun b hb => Below.heap_alloc w _ b hb) ⟨hone w.heap.size _, ⟨hn, .inr ⟨w.heap.size, [], rfl, by simp only [List.length_nil, maxLen]; omega, rfl⟩⟩, ?_, fun b hb => by rw [hone_ne hb]; exact Nat.le_refl _⟩
    rw [List.append_nil]; exact Sub.of_one (heap_alloc_new w _)
end
/-! calls -/
structure Pre (p : Prop) : Prop where
  h : p
/-- what a call of f with vs answers where L is known: L': what is known behind it -/
class Ctr (P : Program) (f : FuncId) (vs : List Value) (w0 : World) (X : Nat → Prop) (L : List Assn) (pre : outParam Prop) {ρ : outParam Type} (val : outParam (ρ → Value)) (L' : outParam (ρ → List Assn)) (φ : outParam (ρ → Prop)) : Prop where
  ok : callB P f = true
  go : pre → ∀ w, St w0 X L w → Calls P f vs.toArray w fun e w' => ∃ r, e = .returned (val r) ∧ St w0 X (L' r) w' ∧ φ r
theorem ctr {P : Program} {f : FuncId} {vs : List Value} {w0 : World} {X : Nat → Prop} {L : List Assn} {pre : Prop} {ρ : Type} {val : ρ → Value} {M : ρ → List Assn} {φ : ρ → Prop} (ok : callB P f = true) (h : pre → ∀ w, St w0 X L w → Ct P f vs w no val M φ) : Ctr P f vs w0 X L pre val (fun r => M r ++ L) φ :=
  ⟨ok, fun hp w hw => (h hp w hw).mono fun e w' ⟨r, he, hs, hφ⟩ => ⟨r, he, hw.call hs, hφ⟩⟩
section
variable {P : Program} {n : Nat} {w0 : World} {X : Nat → Prop} {Q : Cont} {E : Env} {L L' : List Assn} {s : Ms} {ops : Array Oper} {rest : List Oper} {v : Value}
variable {d : Nat} {ty : TypeId} {pos : String} {aft : Array Edge} {ats : Array TypeId} {xs : List Operand} {pre : Prop} {ρ : Type} {val : ρ → Value} {M : ρ → List Assn} {φ : ρ → Prop} {f : FuncId}
theorem gca' {fo : Operand} {vs first cap : List Value} (hf : eev E fo = some (.func (.func f) first.toArray cap.toArray)) (hx : evs E xs = some vs) [h : Ctr P f (first ++ vs ++ cap) w0 X L pre val M φ] (hp : Pre pre) (hd : Nat.blt d n = true) (hD : ∀ r, φ r → Dm w0 X ops s (M r))
    (k : ∀ r, φ r → GO P n w0 X (nextM s) ops rest Q ((d, val r) :: E) (M r)) : GO P n w0 X s ops (⟨some d, .call { callee := .value fo, args := xs.toArray, argTypes := ats }, ty, pos, aft, none⟩ :: rest) Q E L := by
  refine go_hv rfl (fun w hw rest Q k' => ?_) hD k
  refine tl_eff rfl fun K hK a ha => ?_
  unfold Oper.wp
  have hr : (execOp a.eval ⟨some d, .call { callee := .value fo, args := xs.toArray, argTypes := ats }, ty, pos, aft, none⟩).run P w = .ok (.enter f (first ++ vs ++ cap).toArray) w := by
    have hm : xs.map a.eval = vs := evs_map ha hx
    simp only [execOp, resolve, Deferred.ofValue, ha.ev hf, invoke, Sem.run_bind, Sem.run_pure, Result.andThen_ok, List.map_toArray, hm]
    simp [run_callFunc h.ok]
  rw [hr]
  exact (h.go hp.h w hw).mono fun e w' ⟨r, he, hs, hφ⟩ => by
    subst he
    exact hK _ _ ((k' r w' hφ hs).go _ (ha.put hd _))
theorem gcall {vs : List Value} (hx : evs E xs = some vs) [h : Ctr P f vs w0 X L pre val M φ] (hp : Pre pre) (hd : Nat.blt d n = true) (hD : ∀ r, φ r → Dm w0 X ops s (M r))
    (k : ∀ r, φ r → GO P n w0 X (nextM s) ops rest Q ((d, val r) :: E) (M r)) : GO P n w0 X s ops (⟨some d, .call { callee := .value (.func f), args := xs.toArray, argTypes := ats }, ty, pos, aft, none⟩ :: rest) Q E L := by
  have h' : Ctr P f ([] ++ vs ++ []) w0 X L pre val M φ := by simpa using h
  exact gca' (first := []) (cap := []) rfl hx hp hd hD k
theorem gcv {fo : Operand} {vs : List Value} (hf : eev E fo = some (.func (.func f) #[] #[])) (hx : evs E xs = some vs) [h : Ctr P f vs w0 X L pre val M φ] (hp : Pre pre) (hd : Nat.blt d n = true) (hD : ∀ r, φ r → Dm w0 X ops s (M r))
    (k : ∀ r, φ r → GO P n w0 X (nextM s) ops rest Q ((d, val r) :: E) (M r)) : GO P n w0 X s ops (⟨some d, .call { callee := .value fo, args := xs.toArray, argTypes := ats }, ty, pos, aft, none⟩ :: rest) Q E L := by
  have h' : Ctr P f ([] ++ vs ++ []) w0 X L pre val M φ := by simpa using h
  exact gca' (first := []) (cap := []) hf hx hp hd hD k
end
end Go.Proofs.YtalainpmlonahaaDoor
end
section
/-!
  THE SECOND ENGINE, sixth part: kinds of goals; contracts; bytes. 
-/
set_option linter.unusedVariables false
namespace Go.Proofs.YtalainpmlonahaaDoor
open Go.RowKit

section
variable {P : Program} {n : Nat} {w0 : World} {X : Nat → Prop} {Q : Cont} {E : Env} {L L' : List Assn} {s : Ms} {ops : Array Oper} {l : List Oper} {c : Code} {id : Nat}
theorem kO (h : GO P n w0 X s ops l Q E L) : GO P n w0 X s ops l Q E L := h
theorem kC (h : GC P n w0 X c Q E L) : GC P n w0 X c Q E L := h
theorem kN (h : GN P n w0 X Q E L) : GN P n w0 X Q E L := h
theorem kX (h : GX P n w0 X id Q E L) : GX P n w0 X id Q E L := h
theorem kJ (h : GJ P n w0 X id Q E L) : GJ P n w0 X id Q E L := h
theorem kR (h : GR P n w0 X Q E L) : GR P n w0 X Q E L := h
theorem kK {d : Option Tmp} {o : Operand} {xs : Array Operand} {ats : Array TypeId} {ty : TypeId} {pos : String} {aft : Array Edge} (h : GO P n w0 X s ops (⟨d, .call ⟨.value o, xs, ats⟩, ty, pos, aft, none⟩ :: l) Q E L) : GO P n w0 X s ops (⟨d, .call ⟨.value o, xs, ats⟩, ty, pos, aft, none⟩ :: l) Q E L := h
theorem kD (h : Dm w0 X ops s L) : Dm w0 X ops s L := h
theorem kg {o : Op} {ty : TypeId} {pos : String} {aft : Array Edge} {d : Option Tmp} {g : Nat × Bool} (h : GO P n w0 X s ops (⟨d, o, ty, pos, aft, some g⟩ :: l) Q E L) : GO P n w0 X s ops (⟨d, o, ty, pos, aft, some g⟩ :: l) Q E L := h
end
section
variable {P : Program} {w0 : World} {X : Nat → Prop} {E : Env} {L L' M : List Assn} {rs : List ResultVar} {vs : List Value} {v : Value}
theorem kV (h : RV P w0 X E L rs vs) : RV P w0 X E L rs vs := h
theorem kE (h : resVal vs = v) : resVal vs = v := h
theorem kL (h : Ent L M) : Ent L M := h
theorem er {G : Type} {s : Sv} {n : Nat} {e : TypeId} {R : Rep G} {gs : List G} [h : FRow L s n e R gs] [h' : Pk L (rw_ e R s n gs) L'] (k : Ent L' M) : Ent L (rw_ e R s n gs :: M) := Ent.cons (h' := k)
theorem er0 {G : Type} {e : TypeId} {R : Rep G} (k : Ent L M) : Ent L (rw_ e R ⟨none, 0⟩ 0 [] :: M) := ⟨fun w0 X w h => by
  have h1 := nil_row (k.go _ _ _ h) e R
  exact h1⟩
theorem eb {g : Nat} {t : TypeId} {cs : List Cs} [h : FBox L g t cs] [h' : Pk L (boxA g t cs) L'] (k : Ent L' M) : Ent L (boxA g t cs :: M) := Ent.cons (h' := k)
end
/-- a row that is answered -/
structure Br (G : Type) where
  s : Sv
  n : Nat
  gs : List G
abbrev Br.v {G : Type} (r : Br G) : Value := .slice r.s.A r.n r.s.c
def okA (L : List Assn) : Prop := ∃ w0 X w, St w0 X L w
theorem okA.row {G : Type} {L : List Assn} {e : TypeId} {R : Rep G} {s : Sv} {n : Nat} {gs : List G} (h : okA (rw_ e R s n gs :: L)) : n = gs.length := by
  obtain ⟨w0, X, w, h⟩ := h
  obtain ⟨k, hk, _⟩ := h.get (i := 0) rfl
  exact hk.len.symm
theorem okA.some {G : Type} {L : List Assn} {e : TypeId} {R : Rep G} {s : Sv} {n : Nat} {gs : List G} (h : okA (rw_ e R s n gs :: L)) (hn : 0 < n) : s.A.isNone = false := by
  obtain ⟨w0, X, w, h⟩ := h
  obtain ⟨k, hk, _⟩ := h.get (i := 0) rfl
  rcases hk.at_ with ⟨_, h0⟩ | ⟨g, ys, rfl, _⟩
  · omega
  · rfl
theorem okA.tail {L : List Assn} {A : Assn} (h : okA (A :: L)) : okA L := by
  obtain ⟨w0, X, w, h⟩ := h
  exact ⟨w0, X, w, h.tail⟩
theorem Ct.to {P : Program} {f : FuncId} {vs : List Value} {w : World} {X : Nat → Prop} {ρ ρ' : Type} {val : ρ → Value} {val' : ρ' → Value} {M : ρ → List Assn} {M' : ρ' → List Assn} {φ : ρ → Prop} {φ' : ρ' → Prop} (h : Ct P f vs w X val M φ) (hf : ∀ r, φ r → okA (M r) → ∃ r', val r = val' r' ∧ M r = M' r' ∧ φ' r') : Ct P f vs w X val' M' φ' :=
  h.mono fun e w' ⟨r, he, hs, hφ⟩ => by
    obtain ⟨r', h1, h2, h3⟩ := hf r hφ ⟨_, _, _, hs⟩
    exact ⟨r', by rw [he, h1], by rw [← h2]; exact hs, h3⟩
theorem ctr' {P : Program} {f : FuncId} {vs : List Value} {w0 : World} {X : Nat → Prop} {L : List Assn} {pre : Prop} {ρ ρ' : Type} {val : ρ → Value} {M : ρ → List Assn} {φ : ρ → Prop} {val' : ρ' → Value} {M' : ρ' → List Assn} {φ' : ρ' → Prop} (ok : callB P f = true) (h : pre → ∀ w, St w0 X L w → Ct P f vs w no val M φ) (hf : pre → ∀ r, φ r → okA (M r) → ∃ r', val r = val' r' ∧ M r = M' r' ∧ φ' r') : Ctr P f vs w0 X L pre val' (fun r => M' r ++ L) φ' :=
  ctr ok fun hp w hw => (h hp w hw).to (hf hp)

/-! bytes -/
abbrev by_ (x : UInt8) : Value := .int .u8 (x.toNat : Int)
def RB : Rep UInt8 := ⟨1, fun x => [.one (by_ x)], by decide, fun _ => ⟨trivial, rfl, rfl⟩⟩
instance : SzIs RB 1 := ⟨rfl⟩
instance {x : UInt8} : Elm RB (.int .u8 (x.toNat : Int)) x := ⟨rfl⟩
theorem u8_cast (x : UInt8) : u8 (x.toNat : Int) = x := by
  apply UInt8.toNat_inj.1
  have h := x.toNat_lt
  simp only [u8, UInt8.toNat_ofNat']
  omega
def bysOf : List (Nat × Value) → Nat → Option (List UInt8 × Prop)
  | [], _ => some ([], True)
  | (j, .int .u8 z) :: r, i => bif Nat.beq j i then (match bysOf r (i + 1) with | some (gs, p) => some (u8 z :: gs, (0 ≤ z ∧ z ≤ 255) ∧ p) | none => none) else none
  | _, _ => none
theorem bysOf_ok : ∀ {ps : List (Nat × Value)} {i : Nat} {gs : List UInt8} {p : Prop}, bysOf ps i = some (gs, p) → p → Elms RB i ps gs
  | [], i, gs, p, h, _ => by simp only [bysOf, Option.some.injEq, Prod.mk.injEq] at h; obtain ⟨rfl, _⟩ := h; exact Elms.nil
  | (j, v) :: r, i, gs, p, h, hp => by
    cases v with
    | int k z => ?_
    | _ => simp only [bysOf] at h; cases h
    cases k with
    | u8 => ?_
    | _ => simp only [bysOf] at h; cases h
    simp only [bysOf] at h
    cases hb : Nat.beq j i <;> rw [hb] at h
    · simp at h
    · have hj := beqT hb
      subst hj
      simp only [cond_true] at h
      split at h
      · rename_i gs' p' h'
        cases h
        have hz : ((u8 z).toNat : Int) = z := by rw [← u8_wrap, IntKind.wrap_u8]; omega
        have h1 : Elm RB (.int .u8 z) (u8 z) := ⟨by show [by_ (u8 z)] ++ [] = _; unfold by_; rw [hz]; rfl⟩
        have h2 := bysOf_ok h' hp.2
        exact Elms.cons
      · cases h
section
variable {P : Program} {n : Nat} {w0 : World} {X : Nat → Prop} {Q : Cont} {E : Env} {L : List Assn} {s : Ms} {ops : Array Oper} {rest : List Oper}
variable {d : Nat} {ty : TypeId} {pos : String} {aft : Array Edge}
theorem gbb {t e : TypeId} {len bytes : Nat} {parts : List (Nat × Operand)} {ps : List (Nat × Value)} {gs : List UInt8} {p : Prop} (ht : P.underlying t = some (.slice e)) [hE : EL P e 1 bytes] (hp : evps E parts = some ps) (hq : bysOf ps 0 = some (gs, p)) (hpp : p) (hn : gs.length = len) (hlen : Nat.ble (len * 1) 1000000 = true) (hpos : Nat.beq len 0 = false) (hd : Nat.blt d n = true)
    (hD : ∀ s' : Sv, Dm w0 X ops s (rw_ e RB s' len gs :: L)) (kk : ∀ s' : Sv, GO P n w0 X (nextM s) ops rest Q ((d, .slice s'.A len s'.c) :: E) (rw_ e RB s' len gs :: L)) :
    GO P n w0 X s ops (⟨some d, .buildSlice t len parts.toArray, ty, pos, aft, none⟩ :: rest) Q E L := by
  have hq' := bysOf_ok hq hpp
  exact gbs RB ht hp hn hlen hpos hd hD kk
end
instance : EL Tryd.prog 5 1 1 := ⟨by
  obtain ⟨i, h1, h2, h3, h4⟩ := info_parts (show (Tryd.prog.info? 5).map (fun i => (i.zero, i.size, i.bytes)) = some (some (.int .u8 0), 1, 1) by kernel_rfl)
  exact ⟨i, _, h1, h2, h3, h4, rfl, by decide⟩⟩
instance : ZE Tryd.prog 5 RB 0 := ⟨by kernel_rfl, by kernel_rfl⟩
/-- a row of bytes of the call's own -/
abbrev rb (s : Sv) (n : Nat) (l : List UInt8) : Assn := rw_ 5 RB s n l
/-- bytes that can be read -/
abbrev Sb (w : World) (v : Value) (l : List UInt8) : Prop := Slr w RB v l
end Go.Proofs.YtalainpmlonahaaDoor
end
section
/-!
  THE SECOND ENGINE, seventh part: memory that is lent to a call; lots of parts. No program in sight.
-/
set_option linter.unusedVariables false
namespace Go.Proofs.YtalainpmlonahaaDoor
open Go.RowKit

/-- L falls into Lin and the rest -/
class Spl (L Lin : List Assn) (rest : outParam (List Assn)) : Prop where
  get : ∀ h, big L h → ∃ h1 h2, hdis h1 h2 ∧ h = hun h1 h2 ∧ big Lin h1 ∧ big rest h2
theorem hun_emp (h : Hp) : hun hemp h = h := by funext b; simp [hun, hemp]
instance Spl.nil {L : List Assn} : Spl L [] L := ⟨fun h hb => ⟨hemp, h, fun _ => .inl rfl, (hun_emp h).symm, trivial, hb⟩⟩
instance Spl.cons {L L1 Lin rest : List Assn} {A : Assn} [hp : Pk L A L1] [hs : Spl L1 Lin rest] : Spl L (A :: Lin) rest := ⟨fun h hb => by
  obtain ⟨i, hi, rfl⟩ := hp.get
  obtain ⟨hA, h', d, rfl, a, b⟩ := big_front hi hb
  obtain ⟨h1, h2, d', rfl, c, e⟩ := hs.get h' b
  have d1 := hdis_hun.1 d.symm
  exact ⟨hun hA h1, h2, hdis_hun.2 ⟨d1.2.symm, d'⟩, (hun_assoc _ _ _).symm, ⟨hA, h1, d1.1.symm, rfl, a, c⟩, e⟩⟩
theorem St.lendS {w0 w : World} {X : Nat → Prop} {L Lin rest : List Assn} (hst : St w0 X L w) (hs : Spl L Lin rest) : ∃ Y : Nat → Prop, St w Y Lin w ∧ ∀ L' w', St w Y L' w' → St w0 X (L' ++ rest) w' := by
  obtain ⟨hp, hb, hsub, hX⟩ := hst.res
  obtain ⟨h1, h2, d, rfl, ha, hL⟩ := hs.get hp hb
  have hs2 := hsub.right d
  refine ⟨fun b => h1 b ≠ none, ⟨rfl, Tp.rfl, rfl, Nat.le_refl _, fun _ _ _ => rfl, h1, ha, hsub.left, fun b hb => .inl hb⟩, fun L' w' h' => ?_⟩
  obtain ⟨k, kb, ks, kX⟩ := h'.res
  have hYn : ∀ b, h2 b ≠ none → ¬ (h1 b ≠ none) := fun b hb hy => by
    rcases d b with e | e
    · exact hy e
    · exact hb e
  refine ⟨h'.os.trans hst.os, h'.tape.trans hst.tape, h'.output.trans hst.output, Nat.le_trans hst.size h'.size, fun b hb' hx => ?_, hun k h2, big_append ⟨k, h2, fun b => ?_, rfl, kb, hL⟩, ?_, fun b hb => ?_⟩
  · refine (h'.keep b (Nat.lt_of_lt_of_le hb' hst.size) fun hy => ?_).trans (hst.keep b hb' hx)
    rcases hX b (fun e => hy (hun_none.1 e).1) with h3 | h3
    · exact hx h3
    · omega
  · by_cases e : h2 b = none
    · exact .inr e
    · left
      cases e' : k b with
      | none => rfl
      | some o =>
        rcases kX b (by rw [e']; simp) with h3 | h3
        · exact absurd h3 (hYn b e)
        · have := Sub.lt hs2 e; omega
  · exact ks.hun fun b o e => (h'.keep b (Sub.lt hs2 (b := b) (by rw [e]; simp)) (hYn b (by rw [e]; simp))).trans (hs2 b o e)
  · by_cases e : k b = none
    · exact hX b (fun e2 => hb (hun_none.2 ⟨e, (hun_none.1 e2).2⟩))
    · rcases kX b e with h3 | h3
      · exact hX b (fun e2 => h3 (hun_none.1 e2).1)
      · exact .inr (Nat.le_trans hst.size h3)
/-- a call that is lent Lin -/
theorem ctrX {P : Program} {f : FuncId} {vs : List Value} {w0 : World} {X : Nat → Prop} {L Lin rest : List Assn} {pre : Prop} {ρ : Type} {val : ρ → Value} {M : ρ → List Assn} {φ : ρ → Prop} (hs : Spl L Lin rest) (ok : callB P f = true)
    (h : pre → ∀ w Y, St w Y Lin w → (∀ L' w', St w Y L' w' → St w0 X (L' ++ rest) w') → Ct P f vs w Y val M φ) : Ctr P f vs w0 X L pre val (fun r => M r ++ rest) φ :=
  ⟨ok, fun hp w hw => by
    obtain ⟨Y, h1, h2⟩ := hw.lendS hs
    exact (h hp w Y h1 h2).mono fun e w' ⟨r, he, hr, hφ⟩ => ⟨r, he, h2 _ _ hr, hφ⟩⟩
/-- what can be read whatever else is known can be read within a call that is lent something -/
theorem Rw.lent {w0 w : World} {X Y : Nat → Prop} {rest : List Assn} {v : Value} {G : Type} {R : Rep G} {gs : List G} (hr : ∀ L, Rw w0 X L v R gs) (h : ∀ L' w', St w Y L' w' → St w0 X (L' ++ rest) w') (L : List Assn) : Rw w Y L v R gs := ⟨fun w' hw' => (hr _).get w' (h _ _ hw')⟩
/-! lots -/
structure lot (l : List Assn) (h : Hp) : Prop where
  is : big l h
class FLot (L : List Assn) (l : List Assn) : Prop where
  get : lot l ∈ L
instance FLot.hd {L l : List Assn} : FLot (lot l :: L) l := ⟨by simp⟩
instance FLot.tl {L l : List Assn} {B : Assn} [h : FLot L l] : FLot (B :: L) l := ⟨List.mem_cons_of_mem _ h.get⟩
theorem big_mem : ∀ {l : List Assn} {h : Hp} {A : Assn}, big l h → A ∈ l → ∃ k, A k ∧ ∀ b o, k b = some o → h b = some o
  | [], _, _, _, hm => by cases hm
  | B :: l, h, A, ⟨h1, h2, d, e, hB, hl⟩, hm => by
    subst e
    rcases List.mem_cons.1 hm with rfl | hm
    · exact ⟨h1, hB, fun b o hb => by simp [hun, hb]⟩
    · obtain ⟨k, hk, hs⟩ := big_mem hl hm
      refine ⟨k, hk, fun b o hb => ?_⟩
      have := hs b o hb
      rcases d b with e1 | e1
      · simp [hun, e1, this]
      · rw [e1] at this; cases this
theorem Slr.of_lot {w0 w : World} {X : Nat → Prop} {L l : List Assn} {G : Type} {e : TypeId} {R : Rep G} {s : Sv} {n : Nat} {gs : List G} (h : FLot L l) (hm : rw_ e R s n gs ∈ l) (hw : St w0 X L w) : Slr w R (sl s n) gs := by
  obtain ⟨k, hk, hs⟩ := hw.getM h.get
  obtain ⟨k', hk0, hsub⟩ := big_mem hk.is hm
  have hl := hk0.len
  have hk' := hk0.is
  subst hl
  have hs' : Sub k' w := fun b o hb => hs b o (hsub b o hb)
  have h2 : St w (fun b => k' b ≠ none) [rowA e R.sz (sl s gs.length) gs.length (R.all gs)] w := ⟨rfl, Tp.rfl, rfl, Nat.le_refl _, fun _ _ _ => rfl, k', ⟨k', hemp, fun b => .inr rfl, by funext b; simp [hun, hemp], hk', trivial⟩, hs', fun b hb => .inl hb⟩
  exact h2.row (i := 0) rfl
section
variable {L L' L'' M : List Assn} {l : List Assn} {A : Assn}
theorem elot0 (k : Ent L M) : Ent L (lot [] :: M) := ⟨fun w0 X w h => by
  obtain ⟨hp, hb, hs, hX⟩ := (k.go _ _ _ h).res
  exact ⟨h.os, h.tape, h.output, h.size, h.keep, hp, ⟨hemp, hp, fun _ => .inl rfl, (hun_emp hp).symm, ⟨trivial⟩, hb⟩, hs, hX⟩⟩
theorem elot [h : FLot L l] [h' : Pk L (lot l) L'] (k : Ent L' M) : Ent L (lot l :: M) := Ent.cons (h' := k)
/-- one more in the lot -/
theorem elot1 [h : FLot L l] [h' : Pk L (lot l) L'] [h'' : Pk L' A L''] (k : Ent L'' M) : Ent L (lot (l ++ [A]) :: M) := ⟨fun w0 X w hs => by
  have e1 : Ent L (A :: lot l :: L'') := ⟨fun w0 X w hs => by
    obtain ⟨i, hi, rfl⟩ := h'.get
    have s1 := hs.front' hi
    obtain ⟨j, hj, rfl⟩ := h''.get
    have s2 : St w0 X (A :: (lot l :: L.eraseIdx i).eraseIdx (j + 1)) w := s1.front' (i := j + 1) (by simpa using hj)
    simpa using s2⟩
  have s := e1.go _ _ _ hs
  obtain ⟨hp, ⟨hA, h1, d1, rfl, a, h2, h3, d2, rfl, ⟨b⟩, c⟩, hsub, hX⟩ := s.res
  have d12 := (hdis_hun.1 d1.symm).1
  have hb : big (l ++ [A]) (hun hA h2) := by
    rw [hun_comm d12.symm]
    exact big_append ⟨h2, hA, d12, rfl, b, hA, hemp, fun b => .inr rfl, by funext b; simp [hun, hemp], a, trivial⟩
  have s3 : St w0 X (lot (l ++ [A]) :: L'') w := ⟨s.os, s.tape, s.output, s.size, s.keep, hun hA (hun h2 h3), ⟨hun hA h2, h3, hdis_hun.2 ⟨(hdis_hun.1 d1.symm).2.symm, d2⟩, (hun_assoc _ _ _).symm, ⟨hb⟩, c⟩, hsub, hX⟩
  exact St.cons_mono k.go s3⟩
end
end Go.Proofs.YtalainpmlonahaaDoor
end
section
/-!
  THE SECOND ENGINE, last part: one step, whatever it is. The tactic stands once, behind an argument of its own. No program in sight.
-/
set_option linter.all false
namespace Go.Proofs.YtalainpmlonahaaDoor
open Go.RowKit
section
variable {P : Program} {n : Nat} {w0 : World} {X : Nat → Prop} {Q : Cont} {E : Env} {L L' : List Assn} {s : Ms} {ops : Array Oper} {l : List Oper} {p : Prop} {c : Code} {id : Nat}
variable {dd : Option Tmp} {o : Op} {ty : TypeId} {pos : String} {aft : Array Edge}
theorem dO (h : p → GO P n w0 X s ops l Q E L) : p → GO P n w0 X s ops l Q E L := h
theorem dC (h : p → GC P n w0 X c Q E L) : p → GC P n w0 X c Q E L := h
theorem dN (h : p → GN P n w0 X Q E L) : p → GN P n w0 X Q E L := h
theorem dX (h : p → GX P n w0 X id Q E L) : p → GX P n w0 X id Q E L := h
theorem dJ (h : p → GJ P n w0 X id Q E L) : p → GJ P n w0 X id Q E L := h
theorem dR (h : p → GR P n w0 X Q E L) : p → GR P n w0 X Q E L := h
theorem dLd {t : TypeId} {x : Operand} (h : p → GO P n w0 X s ops (⟨dd, .load t x, ty, pos, aft, none⟩ :: l) Q E L) : p → GO P n w0 X s ops (⟨dd, .load t x, ty, pos, aft, none⟩ :: l) Q E L := h
theorem dSt {t : TypeId} {x y : Operand} (h : p → GO P n w0 X s ops (⟨dd, .store t x y, ty, pos, aft, none⟩ :: l) Q E L) : p → GO P n w0 X s ops (⟨dd, .store t x y, ty, pos, aft, none⟩ :: l) Q E L := h
theorem dBi {b : BinOp} {t t' : TypeId} {x y : Operand} (h : p → GO P n w0 X s ops (⟨dd, .binOp b t x y t', ty, pos, aft, none⟩ :: l) Q E L) : p → GO P n w0 X s ops (⟨dd, .binOp b t x y t', ty, pos, aft, none⟩ :: l) Q E L := h
theorem dCv {t t' : TypeId} {x : Operand} (h : p → GO P n w0 X s ops (⟨dd, .convert t t' x, ty, pos, aft, none⟩ :: l) Q E L) : p → GO P n w0 X s ops (⟨dd, .convert t t' x, ty, pos, aft, none⟩ :: l) Q E L := h
theorem dIx {t : TypeId} {x y : Operand} (h : p → GO P n w0 X s ops (⟨dd, .indexAddr t x y, ty, pos, aft, none⟩ :: l) Q E L) : p → GO P n w0 X s ops (⟨dd, .indexAddr t x y, ty, pos, aft, none⟩ :: l) Q E L := h
theorem dSl {t : TypeId} {x : Operand} {a b c : Option Operand} (h : p → GO P n w0 X s ops (⟨dd, .slice t x a b c, ty, pos, aft, none⟩ :: l) Q E L) : p → GO P n w0 X s ops (⟨dd, .slice t x a b c, ty, pos, aft, none⟩ :: l) Q E L := h
theorem dCa {o : Operand} {xs : Array Operand} {ats : Array TypeId} (h : p → GO P n w0 X s ops (⟨dd, .call ⟨.value o, xs, ats⟩, ty, pos, aft, none⟩ :: l) Q E L) : p → GO P n w0 X s ops (⟨dd, .call ⟨.value o, xs, ats⟩, ty, pos, aft, none⟩ :: l) Q E L := h
theorem dAl {t : TypeId} (h : p → GO P n w0 X s ops (⟨dd, .alloc t, ty, pos, aft, none⟩ :: l) Q E L) : p → GO P n w0 X s ops (⟨dd, .alloc t, ty, pos, aft, none⟩ :: l) Q E L := h
theorem dBx {t : TypeId} {x : Operand} (h : p → GO P n w0 X s ops (⟨dd, .box t x, ty, pos, aft, none⟩ :: l) Q E L) : p → GO P n w0 X s ops (⟨dd, .box t x, ty, pos, aft, none⟩ :: l) Q E L := h
theorem dBd {t : TypeId} {x : Array (Nat × Operand)} (h : p → GO P n w0 X s ops (⟨dd, .build t x, ty, pos, aft, none⟩ :: l) Q E L) : p → GO P n w0 X s ops (⟨dd, .build t x, ty, pos, aft, none⟩ :: l) Q E L := h
theorem dBs {t : TypeId} {k : Nat} {x : Array (Nat × Operand)} (h : p → GO P n w0 X s ops (⟨dd, .buildSlice t k x, ty, pos, aft, none⟩ :: l) Q E L) : p → GO P n w0 X s ops (⟨dd, .buildSlice t k x, ty, pos, aft, none⟩ :: l) Q E L := h
theorem dSa {t : TypeId} {x : Operand} (h : p → GO P n w0 X s ops (⟨dd, .sliceToArrayPointer t x, ty, pos, aft, none⟩ :: l) Q E L) : p → GO P n w0 X s ops (⟨dd, .sliceToArrayPointer t x, ty, pos, aft, none⟩ :: l) Q E L := h
theorem dMi {t : TypeId} {x : Operand} (h : p → GO P n w0 X s ops (⟨dd, .makeInterface t x, ty, pos, aft, none⟩ :: l) Q E L) : p → GO P n w0 X s ops (⟨dd, .makeInterface t x, ty, pos, aft, none⟩ :: l) Q E L := h
theorem dMf {t : Fn} {x y : Array Operand} (h : p → GO P n w0 X s ops (⟨dd, .makeFunc t x y, ty, pos, aft, none⟩ :: l) Q E L) : p → GO P n w0 X s ops (⟨dd, .makeFunc t x y, ty, pos, aft, none⟩ :: l) Q E L := h
theorem dMs {t : TypeId} {x y : Operand} (h : p → GO P n w0 X s ops (⟨dd, .makeSlice t x y, ty, pos, aft, none⟩ :: l) Q E L) : p → GO P n w0 X s ops (⟨dd, .makeSlice t x y, ty, pos, aft, none⟩ :: l) Q E L := h
theorem dFa {t : TypeId} {x : Operand} {k : Nat} (h : p → GO P n w0 X s ops (⟨dd, .fieldAddr t x k, ty, pos, aft, none⟩ :: l) Q E L) : p → GO P n w0 X s ops (⟨dd, .fieldAddr t x k, ty, pos, aft, none⟩ :: l) Q E L := h
theorem dLk {t : TypeId} {x y : Operand} {b : Bool} (h : p → GO P n w0 X s ops (⟨dd, .lookup t x y b, ty, pos, aft, none⟩ :: l) Q E L) : p → GO P n w0 X s ops (⟨dd, .lookup t x y b, ty, pos, aft, none⟩ :: l) Q E L := h
theorem dMe {t : TypeId} {x y : Operand} (h : p → GO P n w0 X s ops (⟨dd, .mapEntry t x y, ty, pos, aft, none⟩ :: l) Q E L) : p → GO P n w0 X s ops (⟨dd, .mapEntry t x y, ty, pos, aft, none⟩ :: l) Q E L := h
theorem dEs {t : TypeId} {x y z : Operand} (h : p → GO P n w0 X s ops (⟨dd, .entryStore t x y z, ty, pos, aft, none⟩ :: l) Q E L) : p → GO P n w0 X s ops (⟨dd, .entryStore t x y z, ty, pos, aft, none⟩ :: l) Q E L := h
theorem dRa {t : TypeId} {x : Operand} (h : p → GO P n w0 X s ops (⟨dd, .range t x, ty, pos, aft, none⟩ :: l) Q E L) : p → GO P n w0 X s ops (⟨dd, .range t x, ty, pos, aft, none⟩ :: l) Q E L := h
theorem dEn {x : Operand} (h : p → GO P n w0 X s ops (⟨dd, .entry x, ty, pos, aft, none⟩ :: l) Q E L) : p → GO P n w0 X s ops (⟨dd, .entry x, ty, pos, aft, none⟩ :: l) Q E L := h
theorem dIn {t : TypeId} {x y : Operand} (h : p → GO P n w0 X s ops (⟨dd, .index t x y, ty, pos, aft, none⟩ :: l) Q E L) : p → GO P n w0 X s ops (⟨dd, .index t x y, ty, pos, aft, none⟩ :: l) Q E L := h
theorem dUn {u : UnOp} {t : TypeId} {x : Operand} (h : p → GO P n w0 X s ops (⟨dd, .unOp u t x, ty, pos, aft, none⟩ :: l) Q E L) : p → GO P n w0 X s ops (⟨dd, .unOp u t x, ty, pos, aft, none⟩ :: l) Q E L := h
theorem dLe {xs : Array Operand} {ats : Array TypeId} (h : p → GO P n w0 X s ops (⟨dd, .call ⟨.builtin .len, xs, ats⟩, ty, pos, aft, none⟩ :: l) Q E L) : p → GO P n w0 X s ops (⟨dd, .call ⟨.builtin .len, xs, ats⟩, ty, pos, aft, none⟩ :: l) Q E L := h
theorem dCp {xs : Array Operand} {ats : Array TypeId} (h : p → GO P n w0 X s ops (⟨dd, .call ⟨.builtin .cap, xs, ats⟩, ty, pos, aft, none⟩ :: l) Q E L) : p → GO P n w0 X s ops (⟨dd, .call ⟨.builtin .cap, xs, ats⟩, ty, pos, aft, none⟩ :: l) Q E L := h
theorem dAp {xs : Array Operand} {ats : Array TypeId} (h : p → GO P n w0 X s ops (⟨dd, .call ⟨.builtin .append, xs, ats⟩, ty, pos, aft, none⟩ :: l) Q E L) : p → GO P n w0 X s ops (⟨dd, .call ⟨.builtin .append, xs, ats⟩, ty, pos, aft, none⟩ :: l) Q E L := h
theorem dMn {xs : Array Operand} {ats : Array TypeId} (h : p → GO P n w0 X s ops (⟨dd, .call ⟨.builtin .min, xs, ats⟩, ty, pos, aft, none⟩ :: l) Q E L) : p → GO P n w0 X s ops (⟨dd, .call ⟨.builtin .min, xs, ats⟩, ty, pos, aft, none⟩ :: l) Q E L := h
theorem dCy {xs : Array Operand} {ats : Array TypeId} (h : p → GO P n w0 X s ops (⟨dd, .call ⟨.builtin .copy, xs, ats⟩, ty, pos, aft, none⟩ :: l) Q E L) : p → GO P n w0 X s ops (⟨dd, .call ⟨.builtin .copy, xs, ats⟩, ty, pos, aft, none⟩ :: l) Q E L := h
theorem dOp (h : p → GO P n w0 X s ops (⟨dd, o, ty, pos, aft, none⟩ :: l) Q E L) : p → GO P n w0 X s ops (⟨dd, o, ty, pos, aft, none⟩ :: l) Q E L := h
theorem eCa {q : Prop} {o : Operand} {xs : Array Operand} {ats : Array TypeId} (h : p → q → GO P n w0 X s ops (⟨dd, .call ⟨.value o, xs, ats⟩, ty, pos, aft, none⟩ :: l) Q E L) : p → q → GO P n w0 X s ops (⟨dd, .call ⟨.value o, xs, ats⟩, ty, pos, aft, none⟩ :: l) Q E L := h
theorem eBi {q : Prop} {b : BinOp} {t t' : TypeId} {x y : Operand} (h : p → q → GO P n w0 X s ops (⟨dd, .binOp b t x y t', ty, pos, aft, none⟩ :: l) Q E L) : p → q → GO P n w0 X s ops (⟨dd, .binOp b t x y t', ty, pos, aft, none⟩ :: l) Q E L := h
theorem eLk {q : Prop} {t : TypeId} {x y : Operand} {b : Bool} (h : p → q → GO P n w0 X s ops (⟨dd, .lookup t x y b, ty, pos, aft, none⟩ :: l) Q E L) : p → q → GO P n w0 X s ops (⟨dd, .lookup t x y b, ty, pos, aft, none⟩ :: l) Q E L := h
theorem eMe {q : Prop} {t : TypeId} {x y : Operand} (h : p → q → GO P n w0 X s ops (⟨dd, .mapEntry t x y, ty, pos, aft, none⟩ :: l) Q E L) : p → q → GO P n w0 X s ops (⟨dd, .mapEntry t x y, ty, pos, aft, none⟩ :: l) Q E L := h
theorem eC {q : Prop}  (h : p → q → GC P n w0 X c Q E L) : p → q → GC P n w0 X c Q E L := h
theorem eF {q : Prop} {i j : Nat} {r1 r2 : Od} {D : Pledges} (h : p → q → GO P n w0 X (some (.fork i r1 j r2, D)) ops [] Q E L) : p → q → GO P n w0 X (some (.fork i r1 j r2, D)) ops [] Q E L := h
theorem dG {g : Nat × Bool} {q : Prop} (h : p → q → GO P n w0 X s ops (⟨dd, o, ty, pos, aft, some g⟩ :: l) Q E L) : p → q → GO P n w0 X s ops (⟨dd, o, ty, pos, aft, some g⟩ :: l) Q E L := h
/-- a premise -/
theorem pz (h : p := by first | exact True.intro | omega | ((repeat' (first | refine And.intro ?_ ?_ | exact True.intro | assumption | omega)); done) | (simp only [and_true, true_and, or_true, true_or]; first | done | omega)) : Pre p := ⟨h⟩
/-- what is pledged -/
theorem dz (h : p := by first | exact fun _ _ => dm_none | exact fun _ => dm_none | exact dm_none | (intros; (repeat' (first | exact dm0 | refine dmOff rfl ?_ | refine dmL (lvb rfl rfl) ?_ | refine dmL (lvB rfl rfl rfl) ?_ | refine dmL (lve rfl rfl) ?_ | refine dmL (lvE rfl rfl rfl) ?_ | refine dmL (lva rfl rfl rfl rfl rfl) ?_ | refine dmL (lvh rfl rfl (by omega)) ?_ | refine dmL (lvp rfl rfl) ?_ | refine dmL (lvP rfl rfl rfl) ?_ | refine dmL (lvx rfl rfl) ?_ | refine dmL (lvn rfl rfl rfl (by omega)) ?_ | refine dmL (lvK rfl) ?_ | refine dmOn (lkM rfl pz (by simp only [touch_get])) ?_)); first | done | fail)) : p := h
/-- no such way -/
theorem zi {p g : Prop} (h : p → False := by first | exact id | (intro h; exfalso; omega) | exact fun h => absurd h (by assumption) | exact fun h => absurd (by assumption) h) : p → g := fun x => (h x).elim
end
/-- one step -/
theorem z1 {p g : Prop} (k : p) (h : p → g := by first
  | (apply dO; first | (apply dLd; first | exact gl rfl (lvb rfl rfl) rfl | exact gl rfl (lvB rfl rfl rfl) rfl | exact gl rfl (lve rfl rfl) rfl | exact gl rfl (lvE rfl rfl rfl) rfl | exact gl rfl (lva rfl rfl rfl rfl rfl) rfl | exact gl rfl (lvh rfl rfl (by omega)) rfl | exact gl rfl (lvp rfl rfl) rfl | exact gl rfl (lvP rfl rfl rfl) rfl | exact gl rfl (lvx rfl rfl) rfl) | (apply dSt; first | exact gst rfl rfl rfl rfl dz | exact ge rfl rfl rfl rfl dz | exact gea rfl rfl rfl rfl rfl rfl rfl dz) | (apply dBi; first | exact gv rfl rfl | exact gp rfl (by (try simp only [InR]); omega) rfl | exact gsh rfl (by (try simp only [InR]); omega) rfl | exact gsv rfl (by (try simp only [InR, InSh]); omega) rfl | exact gteq rfl rfl rfl | exact gneE rfl (by kernel_rfl) rfl | exact geql rfl rfl (by kernel_rfl) pz rfl | exact gneq rfl rfl (by kernel_rfl) pz rfl | exact gss rfl (by (try simp only [InR, InSh]); omega) rfl | exact gw rfl rfl) | (apply dCv; first | exact gp rfl (by (try simp only [InR]); omega) rfl | exact gtx rfl rfl rfl rfl rfl | exact gb rfl rfl rfl rfl | exact gw rfl rfl) | (apply dIx; first | exact gix rfl rfl rfl rfl (by omega) rfl | exact gixa rfl rfl rfl rfl (by omega) rfl) | (apply dSl; first | exact gc3 rfl rfl rfl rfl rfl rfl (by omega) rfl | exact gc2 rfl rfl rfl rfl rfl (by omega) rfl | exact gch rfl rfl rfl rfl (by omega) rfl | exact gcl rfl rfl rfl rfl (by omega) rfl | exact gca rfl rfl rfl rfl | exact gchm rfl rfl rfl rfl rfl (by omega) rfl) | (apply dLe; first | exact gv rfl rfl) | (apply dCp; first | exact gv rfl rfl) | (apply dAp; first | exact gap rfl rfl rfl (by omega) rfl dz | exact gan rfl rfl rfl (by omega) rfl dz | exact gapz rfl rfl rfl rfl (by omega) rfl dz | exact ganz rfl rfl rfl rfl (by omega) rfl dz) | (apply dMn; first | exact gmin rfl rfl rfl dz) | (apply dCa; first | exact gcall rfl pz rfl dz | exact gcv rfl rfl pz rfl dz | exact gcc1 rfl rfl pz rfl dz) | (apply dSa; first | exact gap0 rfl rfl rfl rfl (by omega) rfl | exact gv rfl rfl) | (apply dFa; first | exact gv rfl rfl | exact gf rfl rfl rfl) | (apply dBd; first | exact gbu rfl rfl rfl rfl rfl | exact gba0 rfl rfl rfl) | (apply dBx; first | exact gx rfl rfl dz) | (apply dAl; first | exact ga rfl dz) | (apply dMs; first | exact gm0 rfl rfl rfl (by omega) rfl dz | exact gm rfl rfl rfl (by omega) rfl dz) | (apply dBs; first | exact gbs RB rfl rfl rfl rfl rfl rfl dz | exact gbb rfl rfl rfl (by first | (simp; done) | (simp only [and_true]; omega)) rfl rfl rfl rfl dz) | (apply dMf; first | exact gmf rfl rfl dz) | (apply dMi; first | exact gmi rfl rfl rfl rfl dz) | (apply dLk; first | exact gMl rfl rfl rfl pz rfl | exact gMl2 rfl rfl rfl pz rfl) | (apply dMe; first | exact gMe rfl rfl rfl pz rfl dz) | (apply dEs; first | exact gMs rfl rfl rfl rfl dz) | (apply dRa; first | exact gMr rfl rfl rfl dz) | (apply dEn; first | exact gMv rfl rfl dz) | (apply dOp; first | exact gv rfl rfl) | exact gnil | exact gnilD | exact guardU rfl rfl rfl rfl | exact guardUH rfl rfl rfl rfl dz)
  | (apply dC; first | exact gseq | exact greg | exact gret | exact gskip | exact gblk | exact gexit | exact glab | exact ggoto)
  | (apply dN; first | exact gthen | exact gnblk | exact gns1 | exact gns2)
  | (apply dX; first | exact gxs | exact gxb | exact gxn rfl | exact gxl | exact gxc | exact gxs1 | exact gxs2)
  | (apply dJ; first | exact gjs | exact gjb | exact gjl | exact gjl2 | exact gjl3 | exact gjc)
  | (apply dR; first | exact grs | exact grb | exact grl | exact grc | exact grs1 | exact grs2)) : g := h k
/-- one step, of words -/
theorem zw {p g : Prop} (k : p) (h : p → g := by first
  | (apply dO; first | (apply dBi; first | exact gwd rfl rfl rfl pz rfl | exact gws rfl rfl pz (by omega) rfl | exact gwr rfl rfl pz (by omega) rfl) | (apply dCv; first | exact gwc rfl rfl rfl pz rfl) | (apply dSl; first | exact gcb2 rfl rfl rfl rfl rfl (by omega) rfl | exact gcb rfl rfl rfl rfl (by omega) rfl) | (apply dCy; first | exact gcopyb rfl rfl rfl rfl rfl rfl (by omega) rfl dz) | (apply dUn; first | exact gwn rfl pz rfl | exact gneg rfl (by (try simp only [InR]); omega) rfl) | (apply dIn; first | exact gindex rfl rfl rfl rfl rfl (by omega) rfl rfl))
  | exact fun k => z1 k
  | (apply dO; apply dLd; first | exact gl rfl (lvn rfl rfl rfl (by omega)) rfl | exact gl rfl (lvK rfl) rfl)) : g := h k
/-- two ways -/
theorem z2 {p q g : Prop} (k1 : p) (k2 : q) (h : p → q → g := by first
  | (apply dG; first | exact guardT rfl rfl rfl rfl | exact guardF rfl rfl rfl rfl | exact guardTH rfl rfl rfl rfl dz | exact guardFH rfl rfl rfl rfl dz)
  | (apply eC; exact gcond rfl)
  | (apply eF; exact gFn rfl rfl rfl)) : g := h k1 k2
/-- a call whose premise is to be shown -/
theorem zc {p q g : Prop} (k1 : p) (k2 : q) (h : p → q → g := by first | (apply eCa; first | exact fun hp => gcall rfl hp rfl dz | exact fun hp => gcv rfl rfl hp rfl dz | exact fun hp => gcc1 rfl rfl hp rfl dz) | (apply eBi; first | exact fun hp => geql rfl rfl (by kernel_rfl) hp rfl | exact fun hp => gneq rfl rfl (by kernel_rfl) hp rfl) | (apply eLk; first | exact fun hp => gMl rfl rfl rfl hp rfl | exact fun hp => gMl2 rfl rfl rfl hp rfl) | (apply eMe; first | exact fun hp => gMe rfl rfl rfl hp rfl dz)) : g := h k1 k2
/-- what is answered -/
theorem vA0 {P : Program} {w0 : World} {X : Nat → Prop} {E : Env} {L : List Assn} {rs : List ResultVar} {vs : List Value} (h : RV P w0 X E L rs vs := by first | exact rv0 | (apply rvT; exact rfl; exact rv0) | (apply rvC; exact rfl; (first | exact lvb rfl rfl | exact lvB rfl rfl rfl); exact rv0)) : RV P w0 X E L rs vs := h
theorem vA1 {P : Program} {w0 : World} {X : Nat → Prop} {E : Env} {L : List Assn} {rs : List ResultVar} {vs : List Value} (h : RV P w0 X E L rs vs := by first | exact rv0 | (apply rvT; exact rfl; exact vA0) | (apply rvC; exact rfl; (first | exact lvb rfl rfl | exact lvB rfl rfl rfl); exact vA0)) : RV P w0 X E L rs vs := h
theorem vA2 {P : Program} {w0 : World} {X : Nat → Prop} {E : Env} {L : List Assn} {rs : List ResultVar} {vs : List Value} (h : RV P w0 X E L rs vs := by first | exact rv0 | (apply rvT; exact rfl; exact vA1) | (apply rvC; exact rfl; (first | exact lvb rfl rfl | exact lvB rfl rfl rfl); exact vA1)) : RV P w0 X E L rs vs := h
theorem vA3 {P : Program} {w0 : World} {X : Nat → Prop} {E : Env} {L : List Assn} {rs : List ResultVar} {vs : List Value} (h : RV P w0 X E L rs vs := by first | exact rv0 | (apply rvT; exact rfl; exact vA2) | (apply rvC; exact rfl; (first | exact lvb rfl rfl | exact lvB rfl rfl rfl); exact vA2)) : RV P w0 X E L rs vs := h
/-- the end -/
theorem zr {P : Program} {n : Nat} {w0 : World} {X : Nat → Prop} {E : Env} {L : List Assn} {rs : List ResultVar} {vs : List Value} {fn : Func} {ρ : Type} {val : ρ → Value} {M : ρ → List Assn} {φ : ρ → Prop} (x : ρ) (k : φ x) (hr : fn.results = rs.toArray := by exact rfl) (hv : RV P w0 X E L rs vs := by exact vA3) (he : resVal vs = val x := by exact rfl) (hL : Ent L (M x) := by ((repeat (first | exact Ent.nil | refine er ?_ | refine elot ?_ | refine eb ?_ | refine er0 ?_ | refine elot0 ?_)); first | done | fail)) : GR P n w0 X (.body fn (Ret w0 X val M fun r _ => φ r)) E L := gr hr hv x he hL k
theorem zn {P : Program} {n : Nat} {w0 : World} {X : Nat → Prop} {E : Env} {L : List Assn} {fn : Func} {ρ : Type} {val : ρ → Value} {M : ρ → List Assn} {φ : ρ → Prop} (x : ρ) (k : φ x) (hr : fn.results = #[] := by exact rfl) (he : .tuple #[] = val x := by exact rfl) (hL : Ent L (M x) := by ((repeat (first | exact Ent.nil | refine er ?_ | refine elot ?_ | refine eb ?_ | refine er0 ?_ | refine elot0 ?_)); first | done | fail)) : GN P n w0 X (.body fn (Ret w0 X val M fun r _ => φ r)) E L := gnb hr x he hL k
end Go.Proofs.YtalainpmlonahaaDoor
end
