/-
  PARTS OF THE HEAP KNOWN BLOCK BY BLOCK; MAPS; POINTERS THAT ARE COMPARED. No program in sight.
-/
import Derived.Test.YtkjpemkankefnaaDoorFlat
import Derived.Test.YtkjpemkankefnaaDoorBuild
import Derived.MapKept
import Derived.Laws.Pointers
import Derived.WalkSpells
namespace Go.Proofs.YtkjpemkankefnaaDoor
open Go.RowKit

/-- the heap of this part, block by block -/
structure eqA (O : Hp) (h : Hp) : Prop where
  eq : h = O
def upd (O : Hp) (b : Nat) (o : Obj) : Hp := fun k => if k = b then some o else O k
theorem upd_self (O : Hp) (b : Nat) (o : Obj) : upd O b o b = some o := by simp [upd]
theorem upd_ne (O : Hp) {b k : Nat} (o : Obj) (h : k ≠ b) : upd O b o k = O k := by simp [upd, h]
theorem upd_dom {O : Hp} {b k : Nat} {o : Obj} (hb : O b ≠ none) : upd O b o k ≠ none ↔ O k ≠ none := by
  by_cases h : k = b
  · subst h; simp [upd, hb]
  · rw [upd_ne _ _ h]
abbrev rowO (t : TypeId) (cs : List Value) : Obj := .cells cs.toArray t (0, 0)

section st
variable {w0 w w' : World} {Z : Nat → Prop} {L : List Assn} {O : Hp}
theorem St.at (h : St w0 Z L w) {i : Nat} (hi : L[i]? = some (eqA O)) {b : Nat} {o : Obj} (ho : O b = some o) : w.heap[b]? = some o := by
  obtain ⟨k, ⟨rfl⟩, hs⟩ := h.get hi
  exact hs b o ho
theorem St.subO (h : St w0 Z L w) {i : Nat} (hi : L[i]? = some (eqA O)) : Sub O w := fun _ _ ho => h.at hi ho
/-- a part of the heap that is borrowed -/
theorem St.lend {O : Hp} (hs : Sub O w) : St w (fun b => O b ≠ none) [eqA O] w :=
  ⟨rfl, Tp.rfl, rfl, Nat.le_refl _, fun _ _ _ => rfl, O, ⟨O, hemp, fun _ => .inr rfl, by funext b; simp [hun, hemp], ⟨rfl⟩, trivial⟩, hs, fun _ h => .inl h⟩
theorem St.put (h : St w0 Z L w) {i : Nat} (hi : L[i]? = some (eqA O)) {r : Nat} {o : Obj} (hr : O r ≠ none) (ho : w'.os = w.os) (ht : (w'.tape, w'.drawn) = (w.tape, w.drawn)) (hu : w'.output = w.output) (hz : w'.heap.size = w.heap.size)
    (hn : w'.heap[r]? = some o) (hk : ∀ b, b ≠ r → w'.heap[b]? = w.heap[b]?) : St w0 Z (eqA (upd O r o) :: L.eraseIdx i) w' := by
  refine h.step hi ho ht hu (by omega) fun k hk' hs => ?_
  obtain ⟨rfl⟩ := hk'
  refine ⟨_, ⟨rfl⟩, fun b ob hb => ?_, fun b hb => .inl ((upd_dom hr).1 hb), fun b _ hb => hk b ?_⟩
  · by_cases e : b = r
    · subst e; rw [upd_self] at hb; cases hb; exact hn
    · rw [upd_ne _ _ e] at hb; rw [hk b e]; exact hs b ob hb
  · rintro rfl; exact hr hb
theorem St.put_row (h : St w0 Z L w) {i : Nat} (hi : L[i]? = some (eqA O)) {r : Nat} {t : TypeId} {cs : List Value} (hr : O r = some (rowO t cs)) (cs' : List Value) :
    St w0 Z (eqA (upd O r (rowO t cs')) :: L.eraseIdx i) (w.setRow r cs'.toArray) :=
  h.put hi (by rw [hr]; simp) rfl rfl rfl (by simp) (setRow_heap w r _ _ t (0, 0) (h.at hi hr)) fun b hb => setRow_other w r b _ hb
theorem St.put_obj (h : St w0 Z L w) {i : Nat} (hi : L[i]? = some (eqA O)) {r : Nat} {o' : Obj} (hr : O r = some o') (o : Obj) :
    St w0 Z (eqA (upd O r o) :: L.eraseIdx i) { w with heap := w.heap.setIfInBounds r o } := by
  have hlt : r < w.heap.size := (Array.getElem?_eq_some_iff.1 (h.at hi hr)).1
  exact h.put hi (by rw [hr]; simp) rfl rfl rfl (by simp) (by simp [hlt]) fun b hb => by simp [Array.getElem?_setIfInBounds_ne (Ne.symm hb)]
/-- a new block joins the part -/
theorem St.join {r : Nat} {o : Obj} (h : St w0 Z (eqA (hone r o) :: L) w) {i : Nat} (hi : L[i]? = some (eqA O)) : O r = none ∧ St w0 Z (eqA (upd O r o) :: L.eraseIdx i) w := by
  obtain ⟨hp, hb, hs, hX⟩ := h.res
  obtain ⟨h1, h2, d, rfl, ⟨rfl⟩, hL⟩ := hb
  obtain ⟨h3, h4, d', rfl, ⟨rfl⟩, hL'⟩ := big_front hi hL
  have hr : h3 r = none := by
    rcases d r with e | e
    · rw [hone_self] at e; cases e
    · exact (hun_none.1 e).1
  have d2 := hdis_hun.1 d.symm
  have he : hun (hone r o) h3 = upd h3 r o := by
    funext b
    by_cases e : b = r
    · subst e; rw [upd_self]; simp [hun, hone_self]
    · rw [upd_ne _ _ e]; simp [hun, hone, e]
  refine ⟨hr, h.os, h.tape, h.output, h.size, h.keep, _, ⟨upd h3 r o, h4, ?_, rfl, ⟨rfl⟩, hL'⟩, ?_, ?_⟩
  · rw [← he]; exact hdis_hun.2 ⟨d2.2.symm, d'⟩
  · rw [← he, hun_assoc]; exact hs
  · rw [← he, hun_assoc]; exact hX
theorem cells_one {g : Nat} {t : TypeId} {cs : List Value} : cellsA g t cs = eqA (hone g (rowO t cs)) := by
  funext h; exact propext ⟨fun ⟨e⟩ => ⟨e⟩, fun ⟨e⟩ => ⟨e⟩⟩
theorem St.ones {g : Nat} {t : TypeId} {cs : List Value} (h : St w0 Z (cellsA g t cs :: L) w) : St w0 Z (eqA (hone g (rowO t cs)) :: L) w := by rw [cells_one] at h; exact h
theorem St.new (h : St w0 Z L w) (o : Obj) : St w0 Z (eqA (hone w.heap.size o) :: L) (w.alloc o) :=
  h.grow rfl rfl rfl (by simp) (fun b hb => Below.heap_alloc w _ b hb) ⟨_, ⟨rfl⟩, Sub.of_one (heap_alloc_new w _), fun b hb => by rw [hone_ne hb]; exact Nat.le_refl _⟩
theorem St.front {A : Assn} (h : St w0 Z L w) {i : Nat} (hi : L[i]? = some A) : St w0 Z (A :: L.eraseIdx i) w := by
  obtain ⟨hp, hb, hs, hX⟩ := h.res
  exact ⟨h.os, h.tape, h.output, h.size, h.keep, hp, big_front hi hb, hs, hX⟩
/-- what is not asked any more -/
theorem St.drop {A : Assn} (h : St w0 Z (A :: L) w) : St w0 Z L w := by
  obtain ⟨hp, hb, hs, hX⟩ := h.res
  obtain ⟨h1, h2, d, rfl, _, hL⟩ := hb
  exact ⟨h.os, h.tape, h.output, h.size, h.keep, h2, hL, hs.right d, fun b hb => hX b fun e => hb (hun_none.1 e).2⟩
end st

/-! maps -/
def kvs (es : List MapEntry) : List (Value × Value) := es.map fun e => (e.key, e.val)
/-- block r is a map with these entries, of keys that may be compared -/
def MapAt (P : Program) (kt : TypeId) (O : Hp) (r : Nat) (l : List (Value × Value)) : Prop := ∃ es clock, O r = some (.map es clock) ∧ kvs es.toList = l ∧ ∀ p ∈ l, ∃ q, keyOf P kt p.1 = some q
open Classical in
noncomputable def mget (l : List (Value × Value)) (k : Value) : Option Value := (l.find? fun p => decide (p.1 = k)).map (·.2)
open Classical in
noncomputable def mput (l : List (Value × Value)) (k v : Value) : List (Value × Value) := if k ∈ l.map (·.1) then l.map (fun p => if p.1 = k then (k, v) else p) else l ++ [(k, v)]
open Classical in
noncomputable def mdel (l : List (Value × Value)) (k : Value) : List (Value × Value) := l.filter fun p => decide (p.1 ≠ k)
theorem mget_some {l : List (Value × Value)} {k v : Value} (hn : (l.map (·.1)).Nodup) : mget l k = some v ↔ (k, v) ∈ l := by
  classical
  unfold mget
  induction l with
  | nil => simp
  | cons p l ih =>
    obtain ⟨a, b⟩ := p
    simp only [List.map_cons, List.nodup_cons] at hn
    rw [List.find?_cons]
    by_cases h : a = k
    · subst h
      simp only [decide_true, Option.map_some, Option.some.injEq, List.mem_cons, Prod.mk.injEq, true_and]
      constructor
      · rintro rfl; exact .inl rfl
      · rintro (h | h)
        · exact h.symm
        · exact absurd (List.mem_map.2 ⟨_, h, rfl⟩) hn.1
    · simp only [h, decide_false, List.mem_cons, Prod.mk.injEq]
      rw [ih hn.2]
      constructor
      · exact .inr
      · rintro (⟨e, _⟩ | h2)
        · exact absurd e.symm h
        · exact h2
theorem mget_none {l : List (Value × Value)} {k : Value} : mget l k = none ↔ k ∉ l.map (·.1) := by
  classical
  unfold mget
  simp only [Option.map_eq_none_iff, List.find?_eq_none, decide_eq_true_eq, List.mem_map, not_exists, not_and]
theorem mdel_len {l : List (Value × Value)} {k : Value} (hn : (l.map (·.1)).Nodup) (hk : k ∈ l.map (·.1)) : (mdel l k).length + 1 = l.length := by
  classical
  unfold mdel
  induction l with
  | nil => simp at hk
  | cons p l ih =>
    simp only [List.map_cons, List.nodup_cons] at hn
    by_cases h : p.1 = k
    · have : ∀ q ∈ l, q.1 ≠ k := fun q hq e => hn.1 (List.mem_map.2 ⟨q, hq, by rw [e, h]⟩)
      rw [List.filter_cons_of_neg (by simp [h]), List.filter_eq_self.2 (fun q hq => by simpa using this q hq)]; simp
    · rw [List.filter_cons_of_pos (by simp [h])]
      have := ih hn.2 (by
        rcases List.mem_cons.1 hk with e | e
        · exact absurd e.symm h
        · exact e)
      simp only [List.length_cons]; omega
theorem mdel_nodup {l : List (Value × Value)} {k : Value} (hn : (l.map (·.1)).Nodup) : ((mdel l k).map (·.1)).Nodup := by
  unfold mdel
  exact hn.sublist (List.filter_sublist.map _)
theorem mem_mdel {l : List (Value × Value)} {k a b : Value} : (a, b) ∈ mdel l k ↔ (a, b) ∈ l ∧ a ≠ k := by
  classical
  unfold mdel
  rw [List.mem_filter]; simp
theorem mput_new {l : List (Value × Value)} {k v : Value} (hk : k ∉ l.map (·.1)) : mput l k v = l ++ [(k, v)] := by
  unfold mput; rw [if_neg hk]
theorem kvs_keys (es : List MapEntry) : (kvs es).map (·.1) = es.map (·.key) := by simp [kvs]
/-- what findKey finds -/
theorem find_kvs {P : Program} {kt : TypeId} {k : Value} (w : World) (hf : flatB P kt = true) {q : Lit} (hk : keyOf P kt k = some q) {es : List MapEntry} (hall : ∀ p ∈ kvs es, ∃ q, keyOf P kt p.1 = some q) (hn : ((kvs es).map (·.1)).Nodup) :
    ((Instr.findKey kt k es).run P w = .ok none w ∧ mget (kvs es) k = none) ∨ ∃ j e, (Instr.findKey kt k es).run P w = .ok (some (j, e.val)) w ∧ es[j]? = some e ∧ e.key = k ∧ mget (kvs es) k = some e.val := by
  rcases (flatB_law hf).find w hk es (fun e he => hall (e.key, e.val) (List.mem_map.2 ⟨e, he, rfl⟩)) with ⟨h1, h2⟩ | ⟨j, e, h1, h2, h3⟩
  · refine .inl ⟨h1, mget_none.2 ?_⟩
    rw [kvs_keys]
    intro hm
    obtain ⟨e, he, hek⟩ := List.mem_map.1 hm
    exact h2 e he hek
  · refine .inr ⟨j, e, h1, h2, h3, (mget_some hn).2 ?_⟩
    subst h3
    exact List.mem_map.2 ⟨e, List.mem_of_getElem? h2, rfl⟩

theorem ld_row {P : Program} {n : Nat} {E : Env} {w0 w : World} {Z : Nat → Prop} {L : List Assn} {d : Nat} {ty : TypeId} {pos : String} {aft : Array Edge} {x : Operand} {t e size g o m cap i : Nat} {xs : List Value} {v : Value} (hst : St w0 Z L w) (hi : L[i]? = some (rowA e size (.slice (some ⟨g, 0, none⟩) m cap) m xs))
    (hx : eev E x = some (.pointer (some ⟨g, o, none⟩))) (ha : aggB P t = some false) (hc : xs[o]? = some v) : YldAt P n ⟨some d, .load t x, ty, pos, aft, none⟩ E w v := by
  obtain ⟨A, c, he, _, _, _, hr⟩ := hst.row hi
  cases he
  obtain ⟨b, o', e1, h1⟩ := hr (by have := (List.getElem?_eq_some_iff.1 hc).1; omega)
  cases e1
  have := h1 o v hc
  rw [Nat.zero_add] at this
  exact ld_one hx ha this
section ops
variable {P : Program} {n : Nat} {Q : Cont} {E : Env} {w0 w : World} {Z : Nat → Prop} {L : List Assn} {O : Hp} {ops : Array Oper} {rest : List Oper}
variable {d : Nat} {ty : TypeId} {pos : String} {aft : Array Edge} {v : Value}
/-! loads and stores -/
theorem ld_at {x : Operand} {t tt : TypeId} {g o i : Nat} {cs : List Value} (hst : St w0 Z L w) (hi : L[i]? = some (eqA O)) (hx : eev E x = some (.pointer (some ⟨g, o, none⟩))) (ha : aggB P t = some false) (hO : O g = some (rowO tt cs)) (hc : cs[o]? = some v) : YldAt P n ⟨some d, .load t x, ty, pos, aft, none⟩ E w v :=
  ld_one hx ha (by rw [cell_of_row w g o _ _ _ (hst.at hi hO)]; simpa using hc)
theorem ld_at_part {x : Operand} {t tt : TypeId} {g o i : Nat} {cs cs' : List Value} (hst : St w0 Z L w) (hi : L[i]? = some (eqA O)) (hx : eev E x = some (.pointer (some ⟨g, o, none⟩))) (ha : aggB P t = some true) (hO : O g = some (rowO tt cs)) (hs : szB P t = some cs'.length) (hp : (cs.drop o).take cs'.length = cs') :
    YldAt P n ⟨some d, .load t x, ty, pos, aft, none⟩ E w (.agg cs'.toArray) :=
  ld_agg hx ha hs fun j u hu => by
    rw [Addr.add_lit, cell_of_row w g _ _ _ _ (hst.at hi hO)]
    have hj : j < cs'.length := (List.getElem?_eq_some_iff.1 hu).1
    rw [← hp, List.getElem?_take_of_lt hj, List.getElem?_drop] at hu
    simpa using hu
theorem tl_store_at {x y : Operand} {t tt : TypeId} {g o i : Nat} {cs : List Value} {u : Value} (hst : St w0 Z L w) (hi : L[i]? = some (eqA O)) (hx : eev E x = some (.pointer (some ⟨g, o, none⟩))) (hy : eev E y = some u) (hO : O g = some (rowO tt cs)) (hs : szB P t = some u.cells.size) (hf : o + u.cells.size ≤ cs.length) (h1 : oneB u.cells.toList = true)
    (k : ∀ w', St w0 Z (eqA (upd O g (rowO tt (splice cs o u.cells.toList))) :: L.eraseIdx i) w' → TL P n ops rest Q E w') : TL P n ops (⟨none, .store t x y, ty, pos, aft, none⟩ :: rest) Q E w :=
  tl_skip (fun a ha => by
    simp only [execOp, ha.ev hx, ha.ev hy, Instr.storeAt, Instr.sureAddr, Sem.run_bind, Sem.run_pure, Result.andThen_ok, run_storeVar hs (hst.at hi hO) (by simpa using hf) h1]; rfl) (k _ (by simpa using hst.put_row hi hO (splice cs o u.cells.toList)))
/-! what stood at the entry, and is not turned -/
theorem ld_old {x : Operand} {t tt : TypeId} {g o : Nat} {cs : List Value} (hst : St w0 no L w) (hx : eev E x = some (.pointer (some ⟨g, o, none⟩))) (ha : aggB P t = some false) (hO : w0.heap[g]? = some (rowO tt cs)) (hc : cs[o]? = some v) : YldAt P n ⟨some d, .load t x, ty, pos, aft, none⟩ E w v :=
  ld_one hx ha (hst.cell (by rw [cell_of_row w0 g o _ _ _ hO]; simpa using hc))
theorem ld_old_part {x : Operand} {t tt : TypeId} {g o : Nat} {cs cs' : List Value} (hst : St w0 no L w) (hx : eev E x = some (.pointer (some ⟨g, o, none⟩))) (ha : aggB P t = some true) (hO : w0.heap[g]? = some (rowO tt cs)) (hs : szB P t = some cs'.length) (hp : (cs.drop o).take cs'.length = cs') :
    YldAt P n ⟨some d, .load t x, ty, pos, aft, none⟩ E w (.agg cs'.toArray) :=
  ld_agg hx ha hs fun j u hu => by
    rw [Addr.add_lit]
    refine hst.cell ?_
    rw [cell_of_row w0 g _ _ _ _ hO]
    have hj : j < cs'.length := (List.getElem?_eq_some_iff.1 hu).1
    rw [← hp, List.getElem?_take_of_lt hj, List.getElem?_drop] at hu
    simpa using hu
/-! pointers that are compared with nil -/
def ptrB (P : Program) (t : TypeId) : Bool := match P.underlying t with | some (.pointer _) => true | _ => false
theorem ptrB_eq {t : TypeId} (h : ptrB P t = true) : P.underlying t = some (.pointer (P.pointee t)) := by
  unfold ptrB at h; unfold Program.pointee
  split at h
  · rename_i e he; rw [he]
  · cases h
theorem guard_ptr (op : BinOp) (t : TypeId) (x y : Operand) (p q : Option Addr) (w : World) : (eqGuard op t x y (.pointer p) (.pointer q)).run P w = .ok () w := by
  cases op <;> rfl
theorem y_eqlP {x y : Operand} {p : Option Addr} {t yt : TypeId} (hx : eev E x = some (.pointer p)) (hy : eev E y = some (.pointer none)) (ht : ptrB P t = true) :
    Yld P n ⟨some d, .binOp .eql t x y yt, ty, pos, aft, none⟩ E (.bool p.isNone) := ⟨fun a w ha => by
  simp only [execOp, ha.ev hx, ha.ev hy, Sem.run_bind, guard_ptr, Result.andThen_ok, run_eql_pointer_nil w t p (ptrB_eq ht)]; rfl⟩
theorem y_neqP {x y : Operand} {p : Option Addr} {t yt : TypeId} (hx : eev E x = some (.pointer p)) (hy : eev E y = some (.pointer none)) (ht : ptrB P t = true) :
    Yld P n ⟨some d, .binOp .neq t x y yt, ty, pos, aft, none⟩ E (.bool (!p.isNone)) := ⟨fun a w ha => by
  simp only [execOp, ha.ev hx, ha.ev hy, Sem.run_bind, guard_ptr, Result.andThen_ok, run_neq_pointer_nil w t p (ptrB_eq ht)]; rfl⟩
theorem guard_map (op : BinOp) (t : TypeId) (x y : Operand) (p q : Option Nat) (w : World) : (eqGuard op t x y (.map p) (.map q)).run P w = .ok () w := by
  cases op <;> rfl
theorem y_eqlM {x y : Operand} {p : Option Nat} {t k e yt : TypeId} (hx : eev E x = some (.map p)) (hy : eev E y = some (.map none)) (ht : P.underlying t = some (.map k e)) :
    Yld P n ⟨some d, .binOp .eql t x y yt, ty, pos, aft, none⟩ E (.bool p.isNone) := ⟨fun a w ha => by
  simp only [execOp, ha.ev hx, ha.ev hy, Sem.run_bind, guard_map, Result.andThen_ok, binOp]
  have := run_equalIn_map_nil w 9999 t k e p ht
  simp [Op.equal, Op.maxDepth, this]⟩
/-- a call that is lent a part of the heap -/
theorem tl_callO {ρ : Type} {val : ρ → Value} {M : ρ → List Assn} {φ : ρ → World → Prop} {f : FuncId} {vs : List Value} {xs : List Operand} {ats : Array TypeId} {i : Nat} (hst : St w0 Z L w) (hi : L[i]? = some (eqA O)) (hb : callB P f = true) (hx : evs E xs = some vs)
    (hc : Sub O w → Calls P f vs.toArray w (Ret w (fun b => O b ≠ none) val M φ)) (hd : Nat.blt d n = true)
    (k : ∀ r w', St w0 Z (M r ++ L.eraseIdx i) w' → φ r w' → TL P n ops rest Q ((d, val r) :: E) w') :
    TL P n ops (⟨some d, .call { callee := .value (.func f), args := xs.toArray, argTypes := ats }, ty, pos, aft, none⟩ :: rest) Q E w := by
  obtain ⟨k0, ⟨rfl⟩, hs⟩ := hst.get hi
  exact tl_callX (first := []) (cap := []) hst rfl hb hx hi (fun k hk b hb => by obtain ⟨rfl⟩ := hk; exact hb) (by simpa using hc hs) hd k
/-! maps -/
theorem tl_makeMap {t : TypeId} (hst : St w0 Z L w) (hd : Nat.blt d n = true)
    (k : ∀ g w', St w0 Z (eqA (hone g (.map #[] 0)) :: L) w' → TL P n ops rest Q ((d, .map (some g)) :: E) w') : TL P n ops (⟨some d, .makeMap t none, ty, pos, aft, none⟩ :: rest) Q E w :=
  tl_run (fun a ha => by
    simp only [execOp, Instr.makeMap, newObj]; rfl) hd (k _ _ (hst.new (.map #[] 0)))
theorem ld_len_map {x : Operand} {t kt et : TypeId} {r i : Nat} {l : List (Value × Value)} (hst : St w0 Z L w) (hi : L[i]? = some (eqA O)) (hx : eev E x = some (.map (some r))) (ht : P.underlying t = some (.map kt et)) (hm : MapAt P kt O r l) :
    YldAt P n ⟨some d, .call { callee := .builtin .len, args := #[x], argTypes := #[t] }, ty, pos, aft, none⟩ E w (.int .i64 l.length) := ⟨fun a ha => by
  obtain ⟨es, clock, hO, rfl, _⟩ := hm
  simp only [execOp, resolve, invoke, builtin, Sem.run_bind, Sem.run_pure, Result.andThen_ok, List.map_toArray, List.map_cons, List.map_nil, ha.ev hx, Builtin.len_]
  simp [run_underlying ht, goInt, MapKept.run_getObj_map (hst.at hi hO), kvs]⟩
theorem ld_lookup {x ix : Operand} {t kt et : TypeId} {r i : Nat} {l : List (Value × Value)} {key : List Value} {z : Value} (hst : St w0 Z L w) (hi : L[i]? = some (eqA O)) (hx : eev E x = some (.map (some r))) (hix : eev E ix = some (.agg key.toArray)) (ht : P.underlying t = some (.map kt et)) (hf : flatB P kt = true) (hm : MapAt P kt O r l) (hn : (l.map (·.1)).Nodup) (hk : KV P kt key) (hz : zeroB P et = some z) :
    YldAt P n ⟨some d, .lookup t x ix true, ty, pos, aft, none⟩ E w (.tuple #[(mget l (.agg key.toArray)).getD z, .bool (mget l (.agg key.toArray)).isSome]) := ⟨fun a ha => by
  obtain ⟨es, clock, hO, rfl, hall⟩ := hm
  obtain ⟨q, hq⟩ := hk.key hf
  have hc := (flatB_law hf).check w es.isEmpty hq
  rcases find_kvs w hf hq hall hn with ⟨h1, h2⟩ | ⟨j, e, h1, h2, h3, h4⟩
  · simp only [execOp, ha.ev hx, ha.ev hix, Instr.lookup, Sem.run_bind, run_underlying ht, Result.andThen_ok, MapKept.run_getObj_map (hst.at hi hO), hc, Sem.run_pure, h1, h2, run_zeroValue hz]; rfl
  · simp only [execOp, ha.ev hx, ha.ev hix, Instr.lookup, Sem.run_bind, run_underlying ht, Result.andThen_ok, MapKept.run_getObj_map (hst.at hi hO), hc, Sem.run_pure, h1, h4]; rfl⟩
theorem ld_lookup_some {x ix : Operand} {t kt et : TypeId} {r i : Nat} {l : List (Value × Value)} {key : List Value} {u z : Value} (hst : St w0 Z L w) (hi : L[i]? = some (eqA O)) (hx : eev E x = some (.map (some r))) (hix : eev E ix = some (.agg key.toArray)) (ht : P.underlying t = some (.map kt et)) (hf : flatB P kt = true) (hm : MapAt P kt O r l) (hn : (l.map (·.1)).Nodup) (hk : KV P kt key) (hz : zeroB P et = some z) (hv : mget l (.agg key.toArray) = some u) :
    YldAt P n ⟨some d, .lookup t x ix true, ty, pos, aft, none⟩ E w (.tuple #[u, .bool true]) := by
  have := ld_lookup (n := n) (d := d) (ty := ty) (pos := pos) (aft := aft) hst hi hx hix ht hf hm hn hk hz
  rwa [hv] at this
theorem ld_lookup_none {x ix : Operand} {t kt et : TypeId} {r i : Nat} {l : List (Value × Value)} {key : List Value} {z : Value} (hst : St w0 Z L w) (hi : L[i]? = some (eqA O)) (hx : eev E x = some (.map (some r))) (hix : eev E ix = some (.agg key.toArray)) (ht : P.underlying t = some (.map kt et)) (hf : flatB P kt = true) (hm : MapAt P kt O r l) (hn : (l.map (·.1)).Nodup) (hk : KV P kt key) (hz : zeroB P et = some z) (hv : mget l (.agg key.toArray) = none) :
    YldAt P n ⟨some d, .lookup t x ix true, ty, pos, aft, none⟩ E w (.tuple #[z, .bool false]) := by
  have := ld_lookup (n := n) (d := d) (ty := ty) (pos := pos) (aft := aft) hst hi hx hix ht hf hm hn hk hz
  rwa [hv] at this
theorem modify_kvs {es : Array MapEntry} {j : Nat} {e : MapEntry} {k v : Value} (hj : es[j]? = some e) (hk : e.key = k) (hn : ((kvs es.toList).map (·.1)).Nodup) :
    kvs (es.modify j fun e => { e with key := k, val := v }).toList = mput (kvs es.toList) k v := by
  classical
  have hj' : es.toList[j]? = some e := by simpa using hj
  have hmem : k ∈ (kvs es.toList).map (·.1) := by
    rw [kvs_keys]; exact List.mem_map.2 ⟨e, List.mem_of_getElem? hj', hk⟩
  unfold mput
  rw [if_pos hmem, Array.toList_modify]
  apply List.ext_getElem?
  intro m
  simp only [kvs, List.getElem?_map, List.getElem?_modify]
  cases hm : es.toList[m]? with
  | none => simp
  | some e' =>
    by_cases hjm : j = m
    · subst hjm
      rw [hj'] at hm; cases hm
      simp [hk]
    · have hne : e'.key ≠ k := fun h => by
        rw [kvs_keys] at hn
        obtain ⟨h1, h1'⟩ := List.getElem?_eq_some_iff.1 hj'
        obtain ⟨h2, h2'⟩ := List.getElem?_eq_some_iff.1 hm
        rcases Nat.lt_or_gt_of_ne hjm with hlt | hlt
        · exact List.pairwise_iff_getElem.1 hn j m (by simpa using h1) (by simpa using h2) hlt (by simp only [List.getElem_map]; rw [h1', h2', hk, h])
        · exact List.pairwise_iff_getElem.1 hn m j (by simpa using h2) (by simpa using h1) hlt (by simp only [List.getElem_map]; rw [h1', h2', hk, h])
      simp [hjm, hne]
theorem tl_mapUpdate {x ix y : Operand} {t kt et : TypeId} {r i : Nat} {l : List (Value × Value)} {key : List Value} {u : Value} (hst : St w0 Z L w) (hi : L[i]? = some (eqA O)) (hx : eev E x = some (.map (some r))) (hix : eev E ix = some (.agg key.toArray)) (hy : eev E y = some u) (ht : P.underlying t = some (.map kt et)) (hf : flatB P kt = true) (hm : MapAt P kt O r l) (hn : (l.map (·.1)).Nodup) (hk : KV P kt key)
    (k : ∀ w' o, MapAt P kt (upd O r o) r (mput l (.agg key.toArray) u) → St w0 Z (eqA (upd O r o) :: L.eraseIdx i) w' → TL P n ops rest Q E w') : TL P n ops (⟨none, .mapUpdate t x ix y, ty, pos, aft, none⟩ :: rest) Q E w := by
  obtain ⟨es, clock, hO, rfl, hall⟩ := hm
  obtain ⟨q, hq⟩ := hk.key hf
  have hc := (flatB_law hf).check w false hq
  have hnew : ∀ p ∈ mput (kvs es.toList) (.agg key.toArray) u, ∃ q, keyOf P kt p.1 = some q := by
    classical
    intro p hp
    unfold mput at hp
    split at hp
    · obtain ⟨p', hp', rfl⟩ := List.mem_map.1 hp
      split
      · exact ⟨q, hq⟩
      · exact hall _ hp'
    · rcases List.mem_append.1 hp with hp | hp
      · exact hall _ hp
      · rw [List.mem_singleton.1 hp]; exact ⟨q, hq⟩
  rcases find_kvs w hf hq hall hn with ⟨h1, h2⟩ | ⟨j, e, h1, h2, h3, h4⟩
  · refine tl_skip (w' := { w with heap := w.heap.setIfInBounds r (.map (es.push { key := .agg key.toArray, val := u, born := clock }) (clock + 1)) }) (fun a ha => ?_) (k _ _ ⟨_, _, upd_self _ _ _, ?_, hnew⟩ (hst.put_obj hi hO _))
    · simp only [execOp, ha.ev hx, ha.ev hix, ha.ev hy, Instr.mapUpdate, Sem.run_bind, run_underlying ht, Result.andThen_ok, MapKept.run_getObj_map (hst.at hi hO), hc, h1, MapKept.run_setObj_map _ (hst.at hi hO)]; rfl
    · unfold mput
      rw [if_neg (mget_none.1 h2)]
      simp [kvs]
  · have h5 : es[j]? = some e := by simpa using h2
    have hs : (Instr.keyThatStays (((es[j]?).map (·.key)).getD (.agg key.toArray)) (.agg key.toArray)).run P w = .ok (.agg key.toArray) w := by
      rw [h5]; simp only [Option.map_some, Option.getD_some, h3]; exact (flatB_law hf).stays w hq
    refine tl_skip (w' := { w with heap := w.heap.setIfInBounds r (.map (es.modify j fun e => { e with key := .agg key.toArray, val := u }) clock) }) (fun a ha => ?_) (k _ _ ⟨_, _, upd_self _ _ _, modify_kvs h5 h3 hn, hnew⟩ (hst.put_obj hi hO _))
    simp only [execOp, ha.ev hx, ha.ev hix, ha.ev hy, Instr.mapUpdate, Sem.run_bind, run_underlying ht, Result.andThen_ok, MapKept.run_getObj_map (hst.at hi hO), hc, h1, hs, MapKept.run_setObj_map _ (hst.at hi hO)]; rfl
theorem erase_kvs {es : Array MapEntry} {j : Nat} {e : MapEntry} {k : Value} (hj : es[j]? = some e) (hk : e.key = k) (hn : ((kvs es.toList).map (·.1)).Nodup) :
    kvs (es.eraseIdxIfInBounds j).toList = mdel (kvs es.toList) k := by
  classical
  have hlt := (Array.getElem?_eq_some_iff.1 hj).1
  have h1 : (es.eraseIdxIfInBounds j).toList = es.toList.eraseIdx j := by simp [Array.eraseIdxIfInBounds, hlt]
  rw [h1]
  have hj' : es.toList[j]? = some e := by simpa using hj
  clear h1 hlt hj
  generalize es.toList = L at *
  unfold mdel
  induction L generalizing j with
  | nil => simp at hj'
  | cons a L ih =>
    simp only [kvs, List.map_cons, List.nodup_cons] at hn
    cases j with
    | zero =>
      simp at hj'; subst hj'
      have : ∀ p ∈ kvs L, p.1 ≠ k := fun p hp h => hn.1 (List.mem_map.2 ⟨p, hp, by rw [h, hk]⟩)
      simp only [List.eraseIdx_zero, List.tail_cons, kvs, List.map_cons]
      rw [List.filter_cons_of_neg (by simp [hk])]
      exact (List.filter_eq_self.2 (fun p hp => by simpa using this p hp)).symm
    | succ j =>
      simp at hj'
      have hne : a.key ≠ k := fun h => hn.1 (by
        have := List.mem_of_getElem? hj'
        rw [h, ← hk]
        exact List.mem_map.2 ⟨(e.key, e.val), List.mem_map.2 ⟨e, this, rfl⟩, rfl⟩)
      simp only [List.eraseIdx_cons_succ, kvs, List.map_cons]
      rw [List.filter_cons_of_pos (by simp [hne])]
      congr 1
      exact ih hn.2 hj'
theorem tl_delete {x ix : Operand} {t kt et xt : TypeId} {r i : Nat} {l : List (Value × Value)} {key : List Value} (hst : St w0 Z L w) (hi : L[i]? = some (eqA O)) (hx : eev E x = some (.map (some r))) (hix : eev E ix = some (.agg key.toArray)) (ht : P.underlying t = some (.map kt et)) (hf : flatB P kt = true) (hm : MapAt P kt O r l) (hn : (l.map (·.1)).Nodup) (hk : KV P kt key)
    (k : ∀ w' o, MapAt P kt (upd O r o) r (mdel l (.agg key.toArray)) → St w0 Z (eqA (upd O r o) :: L.eraseIdx i) w' → TL P n ops rest Q E w') : TL P n ops (⟨none, .call { callee := .builtin .delete, args := #[x, ix], argTypes := #[t, xt] }, ty, pos, aft, none⟩ :: rest) Q E w := by
  obtain ⟨es, clock, hO, rfl, hall⟩ := hm
  obtain ⟨q, hq⟩ := hk.key hf
  have hc := (flatB_law hf).check w es.isEmpty hq
  have hnew : ∀ p ∈ mdel (kvs es.toList) (.agg key.toArray), ∃ q, keyOf P kt p.1 = some q := fun p hp => hall p (List.mem_filter.1 hp).1
  have key : ∀ w', (Builtin.delete_ #[t, xt] ty #[.map (some r), .agg key.toArray]).run P w = .ok (.tuple #[]) w' → ∀ a, EnvOk n E a → (execOp a.eval ⟨none, .call { callee := .builtin .delete, args := #[x, ix], argTypes := #[t, xt] }, ty, pos, aft, none⟩).run P w = .ok (.value (.tuple #[])) w' := by
    intro w' hrun a ha
    simp only [execOp, resolve, invoke, builtin, Sem.run_bind, Sem.run_pure, Result.andThen_ok, List.map_toArray, List.map_cons, List.map_nil, ha.ev hx, ha.ev hix]
    simp [hrun]
  have fin : ∀ w', (∀ a, EnvOk n E a → (execOp a.eval ⟨none, .call { callee := .builtin .delete, args := #[x, ix], argTypes := #[t, xt] }, ty, pos, aft, none⟩).run P w = .ok (.value (.tuple #[])) w') → TL P n ops rest Q E w' → TL P n ops (⟨none, .call { callee := .builtin .delete, args := #[x, ix], argTypes := #[t, xt] }, ty, pos, aft, none⟩ :: rest) Q E w := fun w' h k =>
    tl_eff rfl fun K hK a ha => by
      unfold Oper.wp
      rw [h a ha]
      exact hK _ _ (k.go _ ha)
  rcases find_kvs w hf hq hall hn with ⟨h1, h2⟩ | ⟨j, e, h1, h2, h3, h4⟩
  · refine fin { w with heap := w.heap.setIfInBounds r (.map es clock) } (key _ ?_) (k _ _ ⟨_, _, upd_self _ _ _, ?_, hnew⟩ (hst.put_obj hi hO _))
    · simp [Builtin.delete_, run_underlying ht, MapKept.run_getObj_map (hst.at hi hO), hc, h1, MapKept.run_setObj_map _ (hst.at hi hO), Result.andThen]
    · classical
      have := mget_none.1 h2
      refine (List.filter_eq_self.2 fun p hp => ?_).symm
      simp only [ne_eq, decide_eq_true_eq]
      rintro h
      exact this (List.mem_map.2 ⟨p, hp, h⟩)
  · have h5 : es[j]? = some e := by simpa using h2
    refine fin { w with heap := w.heap.setIfInBounds r (.map (es.eraseIdxIfInBounds j) clock) } (key _ ?_) (k _ _ ⟨_, _, upd_self _ _ _, erase_kvs h5 h3 hn, hnew⟩ (hst.put_obj hi hO _))
    simp [Builtin.delete_, run_underlying ht, MapKept.run_getObj_map (hst.at hi hO), hc, h1, MapKept.run_setObj_map _ (hst.at hi hO), Result.andThen]
theorem tl_clear_map {x : Operand} {t kt et : TypeId} {r i : Nat} {l : List (Value × Value)} (hst : St w0 Z L w) (hi : L[i]? = some (eqA O)) (hx : eev E x = some (.map (some r))) (ht : P.underlying t = some (.map kt et)) (hm : MapAt P kt O r l)
    (k : ∀ w' o, MapAt P kt (upd O r o) r [] → St w0 Z (eqA (upd O r o) :: L.eraseIdx i) w' → TL P n ops rest Q E w') : TL P n ops (⟨none, .call { callee := .builtin .clear, args := #[x], argTypes := #[t] }, ty, pos, aft, none⟩ :: rest) Q E w := by
  obtain ⟨es, clock, hO, rfl, hall⟩ := hm
  have hrun : (Builtin.clear_ #[t] ty #[.map (some r)]).run P w = .ok (.tuple #[]) { w with heap := w.heap.setIfInBounds r (.map #[] clock) } := by
    simp [Builtin.clear_, run_underlying ht, MapKept.run_getObj_map (hst.at hi hO), MapKept.run_setObj_map _ (hst.at hi hO), Result.andThen]
  refine tl_eff rfl fun K hK a ha => ?_
  unfold Oper.wp
  have : (execOp a.eval ⟨none, .call { callee := .builtin .clear, args := #[x], argTypes := #[t] }, ty, pos, aft, none⟩).run P w = .ok (.value (.tuple #[])) { w with heap := w.heap.setIfInBounds r (.map #[] clock) } := by
    simp only [execOp, resolve, invoke, builtin, Sem.run_bind, Sem.run_pure, Result.andThen_ok, List.map_toArray, List.map_cons, List.map_nil, ha.ev hx]
    simp [hrun]
  rw [this]
  exact hK _ _ ((k _ _ ⟨_, _, upd_self _ _ _, rfl, by simp⟩ (hst.put_obj hi hO _)).go _ ha)
end ops
end Go.Proofs.YtkjpemkankefnaaDoor
