/-
  MEMORY: what each operation on memory does to the parts of the heap that the call owns. No program in sight.
-/
import Derived.Test.YtkjpemkankefnaaDoorSl
import Derived.Laws.Cells
import Derived.Laws.Rows
import Derived.Laws.MakeOwn
namespace Go.Proofs.YtkjpemkankefnaaDoor
open Go.RowKit

/-- block g is a row of just these cells -/
structure cellsA (g : Nat) (t : TypeId) (cs : List Value) (h : Hp) : Prop where
  eq : h = hone g (.cells cs.toArray t (0, 0))
/-- a slice that the call may append to: nil, or at the head of a row -/
structure rowA (e : TypeId) (size : Nat) (v : Value) (n : Nat) (xs : List Value) (h : Hp) : Prop where
  is : 
  (v = .slice none 0 0 ∧ n = 0 ∧ xs = []) ∨ ∃ g cap cur, v = .slice (some ⟨g, 0, none⟩) n cap ∧ xs.length = n * size ∧ n ≤ cap ∧ cap ≤ maxLen ∧ cur.size = cap * size ∧ cur.toList.take (n * size) = xs ∧
    h = hone g (.cells cur e (0, 0))
/-- the cells from an address on -/
def Rd (w : World) (A : Option Addr) (xs : List Value) : Prop :=
  0 < xs.length → ∃ b o, A = some ⟨b, o, none⟩ ∧ ∀ j u, xs[j]? = some u → w.cell? ⟨b, o + j, none⟩ = some u
/-- a slice of n elements whose cells are xs -/
def Sl (w : World) (size : Nat) (v : Value) (n : Nat) (xs : List Value) : Prop :=
  ∃ A c, v = .slice A n c ∧ xs.length = n * size ∧ n ≤ c ∧ c ≤ maxLen ∧ Rd w A xs

theorem hone_self (g : Nat) (o : Obj) : hone g o g = some o := by simp [hone]
theorem hone_ne {g b : Nat} {o : Obj} (h : hone g o b ≠ none) : b = g := by
  unfold hone at h
  split at h
  · assumption
  · exact absurd rfl h
theorem Sub.one {g : Nat} {o : Obj} {w : World} (h : Sub (hone g o) w) : w.heap[g]? = some o := h g o (hone_self g o)
theorem Sub.of_one {g : Nat} {o : Obj} {w : World} (h : w.heap[g]? = some o) : Sub (hone g o) w := fun b u e => by
  unfold hone at e
  split at e
  · rename_i hb; cases e; rw [hb]; exact h
  · cases e

section reads
variable {w w' : World} {A : Option Addr} {xs : List Value}
theorem Rd.nil_ : Rd w A [] := fun h => absurd h (by simp)
theorem lt_of_cell {a : Addr} {v : Value} (h : w.cell? a = some v) : a.block < w.heap.size := World.block_lt_of_cell? w a h
theorem cell_of_heap {a : Addr} (h : w'.heap[a.block]? = w.heap[a.block]?) : w'.cell? a = w.cell? a := World.cell?_of_block (w := w) h
theorem Rd.keep (h : Rd w A xs) (hk : ∀ b, b < w.heap.size → w'.heap[b]? = w.heap[b]?) : Rd w' A xs := fun hn => by
  obtain ⟨b, o, e, hc⟩ := h hn
  exact ⟨b, o, e, fun j u hu => (cell_of_heap (hk _ (lt_of_cell (hc j u hu)))).trans (hc j u hu)⟩
theorem Sl.keep {size : Nat} {v : Value} {n : Nat} (h : Sl w size v n xs) (hk : ∀ b, b < w.heap.size → w'.heap[b]? = w.heap[b]?) : Sl w' size v n xs := by
  obtain ⟨A, c, e, h1, h2, h3, h4⟩ := h
  exact ⟨A, c, e, h1, h2, h3, h4.keep hk⟩
theorem Rd.cut (h : Rd w A xs) {k c m size : Nat} (hc : c = k → m = 0 ∨ xs.length ≤ k * size) : Rd w (if c = k then A else A.map (·.add (k * size))) ((xs.drop (k * size)).take m) := by
  intro hn
  have hl : k * size < xs.length ∧ 0 < m := by
    simp only [List.length_take, List.length_drop] at hn; omega
  obtain ⟨b, o, rfl, hcell⟩ := h (by omega)
  rw [if_neg (by intro e; have := hc e; omega)]
  refine ⟨b, o + k * size, by simp [Addr.add_lit], fun j u hu => ?_⟩
  have hj : j < m := by
    have := (List.getElem?_eq_some_iff.1 hu).1
    simp only [List.length_take] at this; omega
  rw [List.getElem?_take_of_lt hj, List.getElem?_drop] at hu
  rw [Nat.add_assoc]
  exact hcell _ u hu
theorem Sl.nil_ (w : World) (size : Nat) : Sl w size (.slice none 0 0) 0 [] := ⟨none, 0, rfl, by simp, Nat.le_refl _, Nat.zero_le _, Rd.nil_⟩
end reads

section st
variable {w0 w w' : World} {Z : Nat → Prop} {L : List Assn} {A : Assn}
theorem St.rd {B : Option Addr} {xs : List Value} (h : St w0 no L w) (hr : Rd w0 B xs) : Rd w B xs := hr.keep fun b hb => h.keep b hb id
theorem St.sl {size n : Nat} {v : Value} {xs : List Value} (h : St w0 no L w) (hr : Sl w0 size v n xs) : Sl w size v n xs := hr.keep fun b hb => h.keep b hb id
theorem St.cell {B : Addr} {u : Value} (h : St w0 no L w) (hr : w0.cell? B = some u) : w.cell? B = some u := (cell_of_heap (h.keep _ (lt_of_cell hr) id)).trans hr
theorem St.box {g : Nat} {t : TypeId} {cs : List Value} {i : Nat} (h : St w0 Z L w) (hi : L[i]? = some (cellsA g t cs)) : w.heap[g]? = some (.cells cs.toArray t (0, 0)) := by
  obtain ⟨k, ⟨rfl⟩, hs⟩ := h.get hi
  exact hs.one
theorem St.boxCell {g : Nat} {t : TypeId} {cs : List Value} {i : Nat} (h : St w0 Z L w) (hi : L[i]? = some (cellsA g t cs)) (j : Nat) : w.cell? ⟨g, j, none⟩ = cs[j]? := by
  rw [cell_of_row w g j _ t (0, 0) (h.box hi)]; simp
theorem owns_of_rowA {e : TypeId} {size n : Nat} {v : Value} {xs : List Value} {k : Hp} (h : rowA e size v n xs k) (hs : Sub k w) : w.ownsRow 0 e size v n xs ∧ ∀ b, v.ownBlock = some b → k b ≠ none := by
  rcases h.is with ⟨rfl, rfl, rfl⟩ | ⟨g, cap, cur, rfl, h1, h2, h3, h4, h5, rfl⟩
  · exact ⟨⟨by simp, .inl ⟨rfl, rfl⟩⟩, fun b hb => by simp [Value.ownBlock] at hb⟩
  · exact ⟨⟨h1, .inr ⟨g, cap, cur, rfl, Nat.zero_le _, hs.one, h2, h3, h4, h5⟩⟩, fun b hb => by
      simp only [Value.ownBlock, Option.some.injEq] at hb; subst hb; rw [hone_self]; simp⟩
theorem rowA_of_owns {e : TypeId} {size n base : Nat} {v : Value} {xs : List Value} (h : w.ownsRow base e size v n xs) : ∃ k, rowA e size v n xs k ∧ Sub k w ∧ ∀ b, k b ≠ none → v.ownBlock = some b := by
  obtain ⟨h1, ⟨rfl, rfl⟩ | ⟨g, cap, cur, rfl, _, h2, h3, h4, h5, h6⟩⟩ := h
  · have : xs = [] := List.eq_nil_of_length_eq_zero (by simpa using h1)
    subst this
    exact ⟨hemp, ⟨.inl ⟨rfl, rfl, rfl⟩⟩, fun _ _ h => by simp [hemp] at h, fun b h => absurd rfl h⟩
  · exact ⟨hone g _, ⟨.inr ⟨g, cap, cur, rfl, h1, h3, h4, h5, h6, rfl⟩⟩, Sub.of_one h2, fun b hb => by rw [hone_ne hb]; rfl⟩
theorem St.row {e : TypeId} {size n : Nat} {v : Value} {xs : List Value} {i : Nat} (h : St w0 Z L w) (hi : L[i]? = some (rowA e size v n xs)) : Sl w size v n xs := by
  obtain ⟨k, hk, hs⟩ := h.get hi
  rcases hk.is with ⟨rfl, rfl, rfl⟩ | ⟨g, cap, cur, rfl, h1, h2, h3, h4, h5, rfl⟩
  · exact Sl.nil_ w size
  · refine ⟨_, cap, rfl, h1, h2, h3, fun _ => ⟨g, 0, rfl, fun j u hu => ?_⟩⟩
    rw [cell_of_row w g _ cur e (0, 0) hs.one]
    have hj : j < n * size := by rw [← h1]; exact (List.getElem?_eq_some_iff.1 hu).1
    rw [← h5, List.getElem?_take, if_pos hj] at hu
    simpa using hu
theorem St.rowAt {e : TypeId} {size n : Nat} {v : Value} {xs : List Value} {i : Nat} (h : St w0 Z L w) (hi : L[i]? = some (rowA e size v n xs)) (hn : 0 < n) : ∃ g cap, v = .slice (some ⟨g, 0, none⟩) n cap := by
  obtain ⟨k, hk, hs⟩ := h.get hi
  rcases hk.is with ⟨rfl, rfl, rfl⟩ | ⟨g, cap, cur, rfl, h1, h2, h3, h4, h5, rfl⟩
  · omega
  · exact ⟨g, cap, rfl⟩
/-- a nil slice is owned for nothing -/
theorem St.addNil (h : St w0 Z L w) (e : TypeId) (size : Nat) : St w0 Z (rowA e size (.slice none 0 0) 0 [] :: L) w :=
  h.grow rfl rfl rfl (Nat.le_refl _) (fun _ _ => rfl) ⟨hemp, ⟨.inl ⟨rfl, rfl, rfl⟩⟩, fun _ _ h => by simp [hemp] at h, fun b h => absurd rfl h⟩
theorem St.alloc (h : St w0 Z L w) (t : TypeId) (cs : List Value) : St w0 Z (cellsA w.heap.size t cs :: L) (w.alloc (.cells cs.toArray t)) :=
  h.grow rfl rfl rfl (by simp) (fun b hb => Below.heap_alloc w _ b hb) ⟨_, ⟨rfl⟩, Sub.of_one (heap_alloc_new w _), fun b hb => by rw [hone_ne hb]; exact Nat.le_refl _⟩
def splice (cs : List Value) (o : Nat) (vs : List Value) : List Value := cs.take o ++ vs ++ cs.drop (o + vs.length)
theorem St.setRow (h : St w0 Z L w) {g : Nat} {t : TypeId} {cs : List Value} {i : Nat} (hi : L[i]? = some (cellsA g t cs)) (cs' : List Value) : St w0 Z (cellsA g t cs' :: L.eraseIdx i) (w.setRow g cs'.toArray) := by
  refine h.step hi rfl rfl rfl (by simp) fun k hk hs => ?_
  obtain ⟨rfl⟩ := hk
  refine ⟨_, ⟨rfl⟩, Sub.of_one (setRow_heap w g _ _ t (0, 0) hs.one), fun b hb => .inl ?_, fun b _ hb => setRow_other w g b _ ?_⟩
  · rw [hone_ne hb, hone_self]; simp
  · rintro rfl; rw [hone_self] at hb; cases hb
theorem St.setRowRow (h : St w0 Z L w) {e : TypeId} {size g n cap : Nat} {xs : List Value} {i o : Nat} {vs : List Value} (hi : L[i]? = some (rowA e size (.slice (some ⟨g, 0, none⟩) n cap) n xs)) (hf : o + vs.length ≤ n * size) :
    ∃ cur : Array Value, w.heap[g]? = some (.cells cur e (0, 0)) ∧ o + vs.length ≤ cur.size ∧ St w0 Z (rowA e size (.slice (some ⟨g, 0, none⟩) n cap) n (splice xs o vs) :: L.eraseIdx i) (w.setRow g (splice cur.toList o vs).toArray) := by
  obtain ⟨k, hk, hs⟩ := h.get hi
  rcases hk.is with ⟨h0, _⟩ | ⟨g', cap', cur, he, h1, h2, h3, h4, h5, rfl⟩
  · cases h0
  · simp only [Value.slice.injEq, Option.some.injEq, Addr.mk.injEq, and_true, true_and] at he
    obtain ⟨rfl, rfl⟩ := he
    have hle : n * size ≤ cur.size := by rw [h4]; exact Nat.mul_le_mul_right _ h2
    refine ⟨cur, hs.one, by omega, h.step hi rfl rfl rfl (by simp) fun k hk hs' => ?_⟩
    have hone_k : k g ≠ none := (owns_of_rowA hk hs').2 g rfl
    refine ⟨hone g (.cells (splice cur.toList o vs).toArray e (0, 0)), ⟨.inr ⟨g, cap, _, rfl, ?_, h2, h3, ?_, ?_, rfl⟩⟩, Sub.of_one (setRow_heap w g _ _ e (0, 0) hs.one), fun b hb => .inl (by rw [hone_ne hb]; exact hone_k), fun b _ hb => setRow_other w g b _ (by rintro rfl; exact hone_k hb)⟩
    · simp only [splice, List.length_append, List.length_take, List.length_drop]; omega
    · simp only [splice, List.size_toArray, List.length_append, List.length_take, List.length_drop, Array.length_toList]; omega
    · have hl : cur.toList.length = cur.size := Array.length_toList
      simp only [splice]
      rw [← h5]
      apply List.ext_getElem?
      intro j
      simp only [List.getElem?_take, List.getElem?_append, List.getElem?_drop, List.length_take, List.length_append, hl]
      repeat' split
      all_goals first | rfl | omega | (congr 1; omega) | skip
theorem run_append_of_nil {P : Program} (w : World) (base : Nat) (t ty e : TypeId) (i : TypeInfo) (size : Nat) (ht : P.underlying t = some (.slice e)) (hi : P.info? e = some i)
    (v : Value) (n : Nat) (xs : List Value) (hown : w.ownsRow base e size v n xs) (c : Nat) : (Builtin.append_ #[t, t] ty #[v, .slice none 0 c]).run P w = .ok v w := by
  rcases hown.2 with ⟨rfl, rfl⟩ | ⟨g, cap, cur, rfl, _, _, hnc, _⟩
  · simp [Builtin.append_, run_underlying ht, sizeOf, typeInfo, hi, Builtin.lenOf, Builtin.firstCells]
  · simp [Builtin.append_, run_underlying ht, sizeOf, typeInfo, hi, Builtin.lenOf, Builtin.firstCells, hnc, storeCells]
/-- what is asked of an element type: its zero value's cells, how many bytes it has -/
def ElemT (P : Program) (e : TypeId) (size bytes : Nat) : Prop := ∃ i z, P.info? e = some i ∧ i.zero = some z ∧ i.size = size ∧ i.bytes = bytes ∧ z.cells.size = size ∧ 0 < size
theorem St.append {P : Program} (h : St w0 Z L w) {e : TypeId} {size bytes n m c : Nat} {v : Value} {B : Option Addr} {xs news : List Value} {i : Nat} {t : TypeId} (ty : TypeId) (hi : L[i]? = some (rowA e size v n xs))
    (ht : P.underlying t = some (.slice e)) (hE : ElemT P e size bytes) (hl : news.length = m * size) (hr : Rd w B news) (h1 : ∀ u ∈ news, u.oneCell' = true) (hb : (n + m) * bytes ≤ 140737488355328) (h63 : n + m ≤ maxLen) :
    ∃ v' w', (Builtin.append_ #[t, t] ty #[v, .slice B m c]).run P w = .ok v' w' ∧ St w0 Z (rowA e size v' (n + m) (xs ++ news) :: L.eraseIdx i) w' := by
  obtain ⟨info, z, hinf, hz, hsz, hby, hzs, hpos⟩ := hE
  obtain ⟨k, hk, hs⟩ := h.get hi
  have hown := (owns_of_rowA hk hs).1
  have key : ∀ v' w', w.drawn ≤ w'.drawn → w'.ownsRow 0 e size v' (n + m) (xs ++ news) → w.grownBy w' v.ownBlock → (v'.ownBlock = v.ownBlock ∨ v'.ownBlock = some w.heap.size) → St w0 Z (rowA e size v' (n + m) (xs ++ news) :: L.eraseIdx i) w' := by
    intro v' w' hdr ho hg hloc
    refine h.stepT hi hg.os ⟨hg.tape, hdr⟩ hg.output hg.size fun k hk hs => ?_
    obtain ⟨k', hk', hs', hd'⟩ := rowA_of_owns ho
    have hd := (owns_of_rowA hk hs).2
    refine ⟨k', hk', hs', fun b hb => ?_, fun b hb hn => hg.block b hb fun e => hd b e.symm hn⟩
    have := hd' b hb
    rcases hloc with e | e
    · exact .inl (hd b (e ▸ this))
    · rw [e] at this; cases this; exact .inr (Nat.le_refl _)
  rcases B with _ | ad
  · have hn : news = [] := by
      rcases Nat.eq_zero_or_pos news.length with h0 | h0
      · exact List.eq_nil_of_length_eq_zero h0
      · obtain ⟨b, o, e, _⟩ := hr h0; cases e
    subst hn
    have hm : m = 0 := by
      rcases Nat.eq_zero_or_pos m with h0 | h0
      · exact h0
      · have := Nat.mul_pos h0 hpos; simp at hl; omega
    subst hm
    exact ⟨v, w, run_append_of_nil w 0 t ty e info size ht hinf v n xs hown c, key v w (Nat.le_refl _) (by simpa using hown) (World.grownBy.refl w _) (.inl rfl)⟩
  · have hcells : ∀ j u, news[j]? = some u → w.cell? (ad.add j) = some u := by
      intro j u hu
      obtain ⟨b, o, e, hc⟩ := hr (by have := (List.getElem?_eq_some_iff.1 hu).1; omega)
      cases e
      rw [Addr.add_lit]; exact hc j u hu
    obtain ⟨v', w', hrun, h2, h3, _, h5⟩ := run_append_own_at (P := P) w 0 t ty e info z size bytes ht hinf hz hsz hby hzs hpos v n xs hown ad m c news hl hcells h1 h63 hb (Nat.zero_le _)
    exact ⟨v', w', hrun, key v' w' (run_drawn _ _ hrun) h2 h3 h5⟩
end st
end Go.Proofs.YtkjpemkankefnaaDoor
