/-
  STRUCTS AND SLICES THAT ARE WRITTEN OUT. No program in sight.
-/
import Derived.Test.YtkjpemkankefnaaDoorOp
namespace Go.Proofs.YtkjpemkankefnaaDoor
open Go.RowKit

theorem splice_len {cs vs : List Value} {o : Nat} (h : o + vs.length ≤ cs.length) : (splice cs o vs).length = cs.length := by
  simp only [splice, List.length_append, List.length_take, List.length_drop]; omega
theorem splice_all {cs vs : List Value} (h : vs.length = cs.length) : splice cs 0 vs = vs := by
  simp [splice, h]
theorem splice_nil {cs : List Value} {o : Nat} : splice cs o [] = cs := by simp [splice]
theorem splice_get {cs vs : List Value} {o : Nat} (h : o + vs.length ≤ cs.length) (j : Nat) : (splice cs o vs)[j]? = if j < o then cs[j]? else if j < o + vs.length then vs[j - o]? else cs[j]? := by
  have h0 : min o cs.length = o := Nat.min_eq_left (by omega)
  simp only [splice, List.append_assoc, List.getElem?_append, List.length_take, h0, List.getElem?_take, List.getElem?_drop]
  by_cases h1 : j < o
  · rw [if_pos h1, if_pos h1, if_pos h1]
  · rw [if_neg h1, if_neg h1]
    by_cases h2 : j < o + vs.length
    · rw [if_pos (by omega), if_pos h2]
    · rw [if_neg (by omega), if_neg h2]
      congr 1; omega
theorem splice_cons {cs vs : List Value} {o : Nat} {v : Value} (h : o + (vs.length + 1) ≤ cs.length) : splice cs o (v :: vs) = splice (cs.set o v) (o + 1) vs := by
  apply List.ext_getElem?
  intro j
  rw [splice_get (by simpa using h), splice_get (by rw [List.length_set]; omega), List.length_cons, List.getElem?_set]
  rcases Nat.lt_trichotomy j o with hj | hj | hj
  · rw [if_pos hj, if_pos (by omega), if_neg (by omega)]
  · subst hj
    rw [if_neg (by omega), if_pos (by omega), if_pos (by omega), if_pos rfl, if_pos (by omega)]; simp
  · rw [if_neg (show ¬ j < o by omega), if_neg (show ¬ j < o + 1 by omega)]
    by_cases h2 : j < o + 1 + vs.length
    · rw [if_pos (show j < o + (vs.length + 1) by omega), if_pos h2]
      have e : j - o = (j - (o + 1)) + 1 := by omega
      rw [e]; simp
    · rw [if_neg (show ¬ j < o + (vs.length + 1) by omega), if_neg h2, if_neg (show ¬ o = j by omega)]
theorem fold_splice (off : Nat) : ∀ (vs : List Value) (k : Nat) (cs : Array Value), off + k + vs.length ≤ cs.size →
    (vs.zipIdx k).foldl (fun (a : Array Value) (x : Value × Nat) => a.setIfInBounds (off + x.2) x.1) cs = (splice cs.toList (off + k) vs).toArray
  | [], k, cs, _ => by simp [splice_nil]
  | v :: vs, k, cs, h => by
    simp only [List.length_cons] at h
    rw [splice_cons (by rw [Array.length_toList]; omega), List.zipIdx_cons, List.foldl_cons]
    rw [fold_splice off vs (k + 1) (cs.setIfInBounds (off + k) v) (by simp; omega)]
    rw [Array.toList_setIfInBounds, Nat.add_assoc]
/-- parts laid into cells -/
def FillP (place : Nat → Option (Nat × Nat)) : List Value → List (Nat × Value) → List Value → Prop
  | cs, [], cs' => cs = cs'
  | cs, (i, v) :: r, cs' => ∃ off sz, place i = some (off, sz) ∧ v.cells.toList.length = sz ∧ off + sz ≤ cs.length ∧ FillP place (splice cs off v.cells.toList) r cs'
theorem fill_of {place : Nat → Option (Nat × Nat)} : ∀ {ps : List (Nat × Value)} {cs cs' : List Value}, FillP place cs ps cs' → Instr.fill place cs.toArray ps = some cs'.toArray
  | [], cs, cs', h => by simp only [FillP] at h; subst h; rfl
  | (i, v) :: r, cs, cs', h => by
    obtain ⟨off, sz, hp, hs, hf, hr⟩ := h
    have hs' : v.cells.size = sz := by simpa using hs
    have hno : ¬ (v.cells.size ≠ sz ∨ off + v.cells.size > cs.toArray.size) := by
      rw [hs']; simp; omega
    simp only [Instr.fill, hp]
    rw [if_neg (by simpa using hno)]
    have e : Array.foldl (fun (a : Array Value) (x : Value × Nat) => a.setIfInBounds (off + x.2) x.1) cs.toArray v.cells.zipIdx = (splice cs off v.cells.toList).toArray := by
      have h1 := fold_splice off v.cells.toList 0 cs.toArray (by simp; omega)
      rw [← Array.foldl_toList]
      simpa using h1
    have ih := fill_of hr
    rw [← e] at ih
    exact ih
def evps (E : Env) : List (Nat × Operand) → Option (List (Nat × Value))
  | [] => some []
  | (i, x) :: r => match eev E x, evps E r with | some v, some vs => some ((i, v) :: vs) | _, _ => none
theorem evps_map {n : Nat} {E : Env} {a : Act} (ha : EnvOk n E a) : ∀ {xs : List (Nat × Operand)} {vs : List (Nat × Value)}, evps E xs = some vs → (xs.map fun (i, x) => (i, a.eval x)) = vs
  | [], vs, h => by simp [evps] at h; subst h; rfl
  | (i, x) :: r, vs, h => by
    simp only [evps] at h
    split at h
    · rename_i v vs' h1 h2
      cases h
      simp [ha.ev h1, evps_map ha h2]
    · cases h
def placesOf (P : Program) (fs : Array Field) (i : Nat) : Option (Nat × Nat) := match fs[i]? with | some f => (szB P f.type).bind fun s => (litO f.offset).map fun o => (o, s) | none => none
theorem run_places {P : Program} {w : World} : ∀ (fs : List Field), (∀ f ∈ fs, (szB P f.type).isSome = true) →
    (fs.mapM (m := Sem) fun f => do pure (f.offset, ← sizeOf f.type)).run P w = .ok (fs.map fun f => (f.offset, (szB P f.type).getD 0)) w
  | [], _ => by simp
  | f :: fs, h => by
    obtain ⟨s, hs⟩ := Option.isSome_iff_exists.1 (h f (by simp))
    have ih := run_places (P := P) (w := w) fs (fun g hg => h g (by simp [hg]))
    simp only [List.mapM_cons, Sem.run_bind, run_sizeOf hs, Result.andThen_ok, Sem.run_pure, ih, List.map_cons, hs, Option.getD_some]

section
variable {P : Program} {n : Nat} {Q : Cont} {E : Env} {w0 w : World} {Z : Nat → Prop} {L : List Assn} {ops : Array Oper} {rest : List Oper}
variable {d : Nat} {ty : TypeId} {pos : String} {aft : Array Edge}
def sizedB (P : Program) (fs : Array Field) : Bool := fs.toList.all fun f => (szB P f.type).isSome && (litO f.offset).isSome
theorem y_build {t : TypeId} {fs : Array Field} {z : Value} {parts : List (Nat × Operand)} {ps : List (Nat × Value)} {cs : List Value} (hs : P.underlying t = some (.struct fs)) (hz : zeroB P t = some z) (hb : sizedB P fs = true) (hp : evps E parts = some ps)
    (hf : FillP (placesOf P fs) z.cells.toList ps cs) : Yld P n ⟨some d, .build t parts.toArray, ty, pos, aft, none⟩ E (.agg cs.toArray) := ⟨fun a w ha => by
  have h1 : (fs.mapM (m := Sem) fun f => do pure (f.offset, ← sizeOf f.type)).run P w = .ok (fs.toList.map fun f => (f.offset, (szB P f.type).getD 0)).toArray w := by
    obtain ⟨fl⟩ := fs
    have hpl := run_places (P := P) (w := w) fl (by simp only [sizedB, List.all_eq_true, Bool.and_eq_true] at hb; exact fun f hf => (hb f hf).1)
    rw [List.mapM_toArray, Sem.run_map, hpl]; rfl
  have hpl : ∀ i, (fs.toList.map fun f => (f.offset, (szB P f.type).getD 0)).toArray[i]? = placesOf P fs i := by
    intro i
    unfold placesOf
    cases hi : fs[i]? with
    | none => simp [hi]
    | some f =>
      have hm : f ∈ fs.toList := by simpa using Array.mem_of_getElem? hi
      have : (szB P f.type).isSome = true ∧ (litO f.offset).isSome = true := by
        simp only [sizedB, List.all_eq_true, Bool.and_eq_true] at hb; exact hb f hm
      obtain ⟨s, hs⟩ := Option.isSome_iff_exists.1 this.1
      obtain ⟨o, ho⟩ := Option.isSome_iff_exists.1 this.2
      obtain rfl := litO_eq ho
      have hj : fs.toList[i]? = some f := by rw [Array.getElem?_toList]; exact hi
      rw [List.getElem?_toArray, List.getElem?_map, hj]
      simp only [Option.map_some, hs, Option.getD_some, Option.bind_some, ho]
  have h2 := fill_of hf
  simp only [Array.toArray_toList] at h2
  have h3 : (fun i => (fs.toList.map fun f => (f.offset, (szB P f.type).getD 0)).toArray[i]?) = placesOf P fs := funext hpl
  have hm : (parts.toArray.map fun (i, x) => (i, a.eval x)).toList = ps := by simpa using evps_map ha hp
  simp only [execOp, Instr.build, Sem.run_bind, run_zeroValue hz, run_underlying hs, Result.andThen_ok, h1, h3, hm, h2]
  rfl⟩
theorem tl_buildSlice {t e : TypeId} {len size : Nat} {z : Value} {parts : List (Nat × Operand)} {ps : List (Nat × Value)} {cs : List Value} (hst : St w0 Z L w) (ht : P.underlying t = some (.slice e)) (hz : zeroB P e = some z) (hs : szB P e = some size) (hp : evps E parts = some ps) (hlen : Nat.ble (len * size) 16777216 = true)
    (hpos : Nat.beq (len * size) 0 = false)
    (hf : FillP (fun i => some (i * size, size)) ((List.range (len * size)).map (fun j => z.cells[j % z.cells.size]!)) ps cs) (hd : Nat.blt d n = true)
    (k : ∀ g w', St w0 Z (rowA e size (.slice (some ⟨g, 0, none⟩) len len) len cs :: L) w' → TL P n ops rest Q ((d, .slice (some ⟨g, 0, none⟩) len len) :: E) w') : TL P n ops (⟨some d, .buildSlice t len parts.toArray, ty, pos, aft, none⟩ :: rest) Q E w := by
  have h0 : len * size ≠ 0 := fun e0 => by rw [e0] at hpos; simp [Nat.beq] at hpos
  have hle0 : len * size ≤ 16777216 := by simpa using hlen
  have hle : ¬ (16777216 < len * size) := by omega
  have hcs : cs.length = len * size := by
    have : ∀ {ps : List (Nat × Value)} {c c' : List Value}, FillP (fun i => some (i * size, size)) c ps c' → c'.length = c.length := by
      intro ps
      induction ps with
      | nil => intro c c' h; simp only [FillP] at h; rw [h]
      | cons p r ih =>
        intro c c' h
        obtain ⟨i, v⟩ := p
        obtain ⟨off, sz, _, h2, h3, h4⟩ := h
        rw [ih h4, splice_len (by omega)]
    simpa using this hf
  have h2 := fill_of hf
  have hge : len ≤ len * size := by
    rcases Nat.eq_zero_or_pos size with h | h
    · rw [h] at h0; simp at h0
    · exact Nat.le_mul_of_pos_right _ h
  refine tl_run (w' := w.alloc (.cells cs.toArray e)) (fun a ha => ?_) hd (k w.heap.size _ ?_)
  · have hm : List.map (fun x : Nat × Operand => (x.1, a.eval x.2)) parts = ps := evps_map ha hp
    have hr : (Array.range (len * size)).map (fun j => z.cells[j % z.cells.size]!) = ((List.range (len * size)).map (fun j => z.cells[j % z.cells.size]!)).toArray := by
      apply Array.ext'; simp
    rw [← hr] at h2
    simp [execOp, Instr.buildSlice, run_underlying ht, run_sizeOf hs, hle, h0, run_zeroValue hz, hm, h2, newRow]
  · refine hst.grow rfl rfl rfl (by simp) (fun b hb => Below.heap_alloc w _ b hb) ⟨hone w.heap.size _, ⟨.inr ⟨w.heap.size, len, _, rfl, hcs, Nat.le_refl _, ?_, by simpa using hcs, by rw [List.toList_toArray, ← hcs, List.take_length], rfl⟩⟩, Sub.of_one (heap_alloc_new w _), fun b hb => by rw [hone_ne hb]; exact Nat.le_refl _⟩
    simp only [maxLen]; omega
end
end Go.Proofs.YtkjpemkankefnaaDoor
