/-
  OPERATIONS ON MEMORY, CALLS, RETURNS: one lemma each. No program in sight.
-/
import Derived.Test.YtkjpemkankefnaaDoorMem
import Derived.KernelRfl
namespace Go.Proofs.YtkjpemkankefnaaDoor
open Go.RowKit

/-- a number, written out -/
def litO (n : Nat) : Option Nat := [0, 1, 2, 3, 4, 5, 6, 7, 8, 9, 10, 11, 12, 13, 14, 15, 16, 17, 18, 19, 20, 21, 22, 23, 24, 25, 26, 27, 28, 29, 30, 31, 32, 33, 34, 35, 36, 37, 38, 39, 40, 41, 42, 43, 44, 45, 46, 47, 48, 49, 50, 51, 52, 53, 54, 55, 56, 57, 58, 59, 60, 61, 62, 63, 64, 65, 66, 67, 68, 69, 70, 71, 72, 73, 74, 75, 76, 77, 78, 79, 80, 81, 82, 83, 84, 85, 86, 87, 88, 89, 90, 91, 92, 93, 94, 95, 96, 97, 98, 99, 100, 128, 256, 512].find? fun k => Nat.beq n k
theorem litO_eq {n m : Nat} (h : litO n = some m) : n = m := by
  have := List.find?_some h
  exact Nat.eq_of_beq_eq_true this
def szB (P : Program) (t : TypeId) : Option Nat := (P.info? t).bind fun i => litO i.size
theorem szB_some {P : Program} {t : TypeId} {n : Nat} (h : szB P t = some n) : ∃ i, P.info? t = some i ∧ i.size = n := by
  unfold szB at h
  obtain ⟨i, hi, h2⟩ := Option.bind_eq_some_iff.1 h
  exact ⟨i, hi, litO_eq h2⟩
def aggB (P : Program) (t : TypeId) : Option Bool := (P.underlying t).map fun d => match d with | .struct _ | .array _ _ => true | _ => false
def zeroB (P : Program) (t : TypeId) : Option Value := (P.info? t).bind (·.zero)
def oneB (l : List Value) : Bool := l.all (·.oneCell')
theorem oneB_mem {l : List Value} (h : oneB l = true) : ∀ u ∈ l, u.oneCell' = true := by simpa [oneB] using h

section runs
variable {P : Program} {w : World}
theorem run_sizeOf {t : TypeId} {n : Nat} (h : szB P t = some n) : (sizeOf t).run P w = .ok n w := by
  obtain ⟨i, hi, rfl⟩ := szB_some h
  simp [sizeOf, typeInfo, hi]
theorem run_isAgg {t : TypeId} {b : Bool} (h : aggB P t = some b) : (isAgg t).run P w = .ok b w := by
  unfold aggB at h
  obtain ⟨d, hd, rfl⟩ := Option.map_eq_some_iff.1 h
  simp only [isAgg, Sem.run_bind, run_underlying hd, Result.andThen_ok]
  cases d <;> rfl
theorem run_zeroValue {t : TypeId} {z : Value} (h : zeroB P t = some z) : (zeroValue t).run P w = .ok z w := by
  unfold zeroB at h
  obtain ⟨i, hi, hz⟩ := Option.bind_eq_some_iff.1 h
  simp [zeroValue, typeInfo, hi, hz]
theorem run_loadVar_one {t : TypeId} {p : Addr} {v : Value} (h : aggB P t = some false) (hc : w.cell? p = some v) : (loadVar t p).run P w = .ok v w := by
  simp [loadVar, run_isAgg h, hc]
theorem run_loadVar_agg {t : TypeId} {p : Addr} {cs : List Value} (h : aggB P t = some true) (hs : szB P t = some cs.length) (hc : ∀ j u, cs[j]? = some u → w.cell? (p.add j) = some u) : (loadVar t p).run P w = .ok (.agg cs.toArray) w := by
  simp [loadVar, run_isAgg h, run_sizeOf hs, run_loadCells_list w p cs hc]
theorem run_storeVar {t tt : TypeId} {g o : Nat} {cur : Array Value} {v : Value} (hs : szB P t = some v.cells.size) (hg : w.heap[g]? = some (.cells cur tt (0, 0))) (hf : o + v.cells.size ≤ cur.size) (h1 : oneB v.cells.toList = true) :
    (storeVar t ⟨g, o, none⟩ v).run P w = .ok () (w.setRow g (splice cur.toList o v.cells.toList).toArray) := by
  have := run_storeCells_at P g o tt v.cells.toList 0 cur w hg (by simpa using hf) (oneB_mem h1)
  simp only [storeVar, Sem.run_bind, run_sizeOf hs, Result.andThen_ok]
  simp only [Nat.add_zero] at this
  simp [splice, this]
end runs

section ops
variable {P : Program} {n : Nat} {Q : Cont} {E : Env} {w0 w : World} {Z : Nat → Prop} {L : List Assn} {ops : Array Oper} {rest : List Oper}
variable {d : Nat} {ty : TypeId} {pos : String} {aft : Array Edge} {v : Value}

/-! addresses -/
theorem y_fieldAddr {x : Operand} {p : Addr} {s i off sz : Nat} {fs : Array Field} {f : Field} (hx : eev E x = some (.pointer (some p))) (hs : P.underlying s = some (.struct fs)) (hf : fs[i]? = some f) (ho : litO f.offset = some off) (hz : szB P f.type = some sz) (hpos : Nat.beq sz 0 = false) :
    Yld P n ⟨some d, .fieldAddr s x i, ty, pos, aft, none⟩ E (.pointer (some (p.add off))) := ⟨fun a w ha => by
  have h0 : sz ≠ 0 := fun e => by subst e; simp [Nat.beq] at hpos
  obtain rfl := litO_eq ho
  simp [execOp, ha.ev hx, Instr.fieldAt, run_underlying hs, hf, Instr.sureAddr, fieldPlace, run_sizeOf hz, h0]⟩
theorem y_index_slice {x ix : Operand} {b o len cap sz : Nat} {k : IntKind} {i : Int} {t e : TypeId} (hx : eev E x = some (.slice (some ⟨b, o, none⟩) len cap)) (hi : eev E ix = some (.int k i)) (ht : P.underlying t = some (.slice e)) (hz : szB P e = some sz) (h0 : 0 ≤ i) (h1 : i < len) :
    Yld P n ⟨some d, .indexAddr t x ix, ty, pos, aft, none⟩ E (.pointer (some ⟨b, o + i.toNat * sz, none⟩)) := ⟨fun a w ha => by
  simp [execOp, ha.ev hx, ha.ev hi, Instr.indexAt, asIntOf, run_underlying ht, run_sizeOf hz, h0, h1, Addr.add_lit]⟩
theorem y_index_array {x ix : Operand} {b o len sz : Nat} {k : IntKind} {i : Int} {t e : TypeId} (hx : eev E x = some (.pointer (some ⟨b, o, none⟩))) (hi : eev E ix = some (.int k i)) (ht : P.underlying t = some (.array len e)) (hz : szB P e = some sz) (h0 : 0 ≤ i) (h1 : i < len) :
    Yld P n ⟨some d, .indexAddr t x ix, ty, pos, aft, none⟩ E (.pointer (some ⟨b, o + i.toNat * sz, none⟩)) := ⟨fun a w ha => by
  simp [execOp, ha.ev hx, ha.ev hi, Instr.indexAt, asIntOf, run_underlying ht, run_sizeOf hz, h0, h1, Addr.add_lit, Instr.sureAddr]⟩
/-! cuts of slices -/
theorem run_bound {P : Program} {w : World} {k : IntKind} {i : Int} {m : Nat} {c : BoundsCode} (h0 : 0 ≤ i) (h1 : i ≤ m) : (Instr.sliceBound (.int k i) m c).run P w = .ok i.toNat w := by
  simp [Instr.sliceBound, asIntOf, h0, h1]
section cuts
variable {x lo hi mx : Operand} {A : Option Addr} {len cap sz : Nat} {kl kh km : IntKind} {l h m : Int} {t e : TypeId}
theorem y_cut_lhm (hx : eev E x = some (.slice A len cap)) (hl : eev E lo = some (.int kl l)) (hh : eev E hi = some (.int kh h)) (hm : eev E mx = some (.int km m)) (ht : P.underlying t = some (.slice e)) (hz : szB P e = some sz) (h0 : 0 ≤ l) (h1 : l ≤ h) (h2 : h ≤ m) (h3 : m ≤ cap) :
    Yld P n ⟨some d, .slice t x (some lo) (some hi) (some mx), ty, pos, aft, none⟩ E (.slice (if m.toNat = l.toNat then A else A.map (·.add (l.toNat * sz))) (h.toNat - l.toNat) (m.toNat - l.toNat)) := ⟨fun a w ha => by
  have e1 : (h : Int) ≤ m.toNat := by omega
  have e2 : (l : Int) ≤ h.toNat := by omega
  simp [execOp, ha.ev hx, ha.ev hl, ha.ev hh, ha.ev hm, Instr.sliceAt, Instr.slice, Instr.sliceBounds, run_underlying ht, run_sizeOf hz, run_bound (show 0 ≤ m by omega) h3, run_bound (show 0 ≤ h by omega) e1, run_bound h0 e2]⟩
theorem y_cut_lh (hx : eev E x = some (.slice A len cap)) (hl : eev E lo = some (.int kl l)) (hh : eev E hi = some (.int kh h)) (ht : P.underlying t = some (.slice e)) (hz : szB P e = some sz) (h0 : 0 ≤ l) (h1 : l ≤ h) (h3 : h ≤ cap) :
    Yld P n ⟨some d, .slice t x (some lo) (some hi) none, ty, pos, aft, none⟩ E (.slice (if cap = l.toNat then A else A.map (·.add (l.toNat * sz))) (h.toNat - l.toNat) (cap - l.toNat)) := ⟨fun a w ha => by
  have e2 : (l : Int) ≤ h.toNat := by omega
  simp [execOp, ha.ev hx, ha.ev hl, ha.ev hh, Instr.sliceAt, Instr.slice, Instr.sliceBounds, run_underlying ht, run_sizeOf hz, run_bound (show 0 ≤ h by omega) h3, run_bound h0 e2]⟩
theorem y_cut_h (hx : eev E x = some (.slice A len cap)) (hh : eev E hi = some (.int kh h)) (ht : P.underlying t = some (.slice e)) (hz : szB P e = some sz) (h0 : 0 ≤ h) (h3 : h ≤ cap) :
    Yld P n ⟨some d, .slice t x none (some hi) none, ty, pos, aft, none⟩ E (.slice (if cap = 0 then A else A.map (·.add (0 * sz))) (h.toNat - 0) (cap - 0)) := ⟨fun a w ha => by
  simp [execOp, ha.ev hx, ha.ev hh, Instr.sliceAt, Instr.slice, Instr.sliceBounds, run_underlying ht, run_sizeOf hz, run_bound h0 h3]⟩
theorem y_cut_l (hx : eev E x = some (.slice A len cap)) (hl : eev E lo = some (.int kl l)) (ht : P.underlying t = some (.slice e)) (hz : szB P e = some sz) (h0 : 0 ≤ l) (h3 : l ≤ len) :
    Yld P n ⟨some d, .slice t x (some lo) none none, ty, pos, aft, none⟩ E (.slice (if cap = l.toNat then A else A.map (·.add (l.toNat * sz))) (len - l.toNat) (cap - l.toNat)) := ⟨fun a w ha => by
  simp [execOp, ha.ev hx, ha.ev hl, Instr.sliceAt, Instr.slice, Instr.sliceBounds, run_underlying ht, run_sizeOf hz, run_bound h0 h3]⟩
theorem y_arr_all {b o : Nat} (hx : eev E x = some (.pointer (some ⟨b, o, none⟩))) (ht : P.underlying t = some (.array len e)) (hz : szB P e = some sz) :
    Yld P n ⟨some d, .slice t x none none none, ty, pos, aft, none⟩ E (.slice (some ⟨b, o, none⟩) len len) := ⟨fun a w ha => by
  simp [execOp, ha.ev hx, Instr.sliceAt, Instr.sliceBounds, run_underlying ht, run_sizeOf hz, Instr.sureAddr, Addr.add_zero']⟩
theorem y_sliceToArray (hx : eev E x = some (.slice A len cap)) {m : Nat} (ht : P.underlying t = some (.array m e)) (h : m ≤ len) :
    Yld P n ⟨some d, .sliceToArrayPointer t x, ty, pos, aft, none⟩ E (.pointer A) := ⟨fun a w ha => by
  have : ¬ len < m := by omega
  simp [execOp, ha.ev hx, Instr.arrayAt, run_underlying ht, this]⟩
end cuts
/-! loads -/
theorem ld_one {x : Operand} {t : TypeId} {p : Addr} (hx : eev E x = some (.pointer (some p))) (ha : aggB P t = some false) (hc : w.cell? p = some v) : YldAt P n ⟨some d, .load t x, ty, pos, aft, none⟩ E w v := ⟨fun a hok => by
  simp [execOp, hok.ev hx, Instr.loadAt, Instr.sureAddr, run_loadVar_one ha hc]⟩
theorem ld_agg {x : Operand} {t : TypeId} {p : Addr} {cs : List Value} (hx : eev E x = some (.pointer (some p))) (ha : aggB P t = some true) (hs : szB P t = some cs.length) (hc : ∀ j u, cs[j]? = some u → w.cell? (p.add j) = some u) : YldAt P n ⟨some d, .load t x, ty, pos, aft, none⟩ E w (.agg cs.toArray) := ⟨fun a hok => by
  simp [execOp, hok.ev hx, Instr.loadAt, Instr.sureAddr, run_loadVar_agg ha hs hc]⟩
theorem ld_box {x : Operand} {t tt : TypeId} {g o i : Nat} {cs : List Value} (hst : St w0 Z L w) (hx : eev E x = some (.pointer (some ⟨g, o, none⟩))) (ha : aggB P t = some false) (hi : L[i]? = some (cellsA g tt cs)) (hc : cs[o]? = some v) : YldAt P n ⟨some d, .load t x, ty, pos, aft, none⟩ E w v :=
  ld_one hx ha ((hst.boxCell hi o).trans hc)
theorem ld_box_all {x : Operand} {t tt : TypeId} {g i : Nat} {cs : List Value} (hst : St w0 Z L w) (hx : eev E x = some (.pointer (some ⟨g, 0, none⟩))) (ha : aggB P t = some true) (hi : L[i]? = some (cellsA g tt cs)) (hs : szB P t = some cs.length) : YldAt P n ⟨some d, .load t x, ty, pos, aft, none⟩ E w (.agg cs.toArray) :=
  ld_agg hx ha hs fun j u hu => by rw [Addr.add_lit, Nat.zero_add, hst.boxCell hi j, hu]
theorem ld_box_part {x : Operand} {t tt : TypeId} {g o i : Nat} {cs cs' : List Value} (hst : St w0 Z L w) (hx : eev E x = some (.pointer (some ⟨g, o, none⟩))) (ha : aggB P t = some true) (hi : L[i]? = some (cellsA g tt cs)) (hs : szB P t = some cs'.length) (hp : (cs.drop o).take cs'.length = cs') : YldAt P n ⟨some d, .load t x, ty, pos, aft, none⟩ E w (.agg cs'.toArray) :=
  ld_agg hx ha hs fun j u hu => by
    rw [Addr.add_lit, hst.boxCell hi (o + j)]
    have hj : j < cs'.length := (List.getElem?_eq_some_iff.1 hu).1
    rw [← hp, List.getElem?_take_of_lt hj, List.getElem?_drop] at hu
    exact hu
/-! stores, new blocks -/
theorem eff_of_run {o : Oper} {w' : World} {K : Act → World → Prop} (h : ∀ a, EnvOk n E a → (execOp a.eval o).run P w = .ok (.value v) w') {dd : Nat} (hd : o.dst = some dd) (hlt : Nat.blt dd n = true) (k : ∀ a, EnvOk n ((dd, v) :: E) a → K a w') : Eff P n o E w Q K := fun a ha => by
  unfold Oper.wp
  rw [h a ha]
  show K (a.put o.dst v) w'
  rw [hd]
  exact k _ (ha.put hlt v)
theorem tl_run {op : Op} {w' : World} (h : ∀ a, EnvOk n E a → (execOp a.eval ⟨some d, op, ty, pos, aft, none⟩).run P w = .ok (.value v) w') (hlt : Nat.blt d n = true) (k : TL P n ops rest Q ((d, v) :: E) w') : TL P n ops (⟨some d, op, ty, pos, aft, none⟩ :: rest) Q E w :=
  tl_eff rfl fun _ hK => eff_of_run h rfl hlt fun a ha => hK _ _ (k.go a ha)
theorem tl_skip {op : Op} {w' : World} (h : ∀ a, EnvOk n E a → (execOp a.eval ⟨none, op, ty, pos, aft, none⟩).run P w = .ok .skip w') (k : TL P n ops rest Q E w') : TL P n ops (⟨none, op, ty, pos, aft, none⟩ :: rest) Q E w :=
  tl_eff rfl fun K hK a ha => by
    unfold Oper.wp
    rw [h a ha]
    exact hK _ _ (k.go a ha)
theorem tl_store {x y : Operand} {t tt : TypeId} {g o i : Nat} {cs : List Value} {u : Value} (hst : St w0 Z L w) (hx : eev E x = some (.pointer (some ⟨g, o, none⟩))) (hy : eev E y = some u) (hi : L[i]? = some (cellsA g tt cs)) (hs : szB P t = some u.cells.size) (hf : o + u.cells.size ≤ cs.length) (h1 : oneB u.cells.toList = true)
    (k : ∀ w', St w0 Z (cellsA g tt (splice cs o u.cells.toList) :: L.eraseIdx i) w' → TL P n ops rest Q E w') : TL P n ops (⟨none, .store t x y, ty, pos, aft, none⟩ :: rest) Q E w :=
  tl_skip (fun a ha => by
    simp only [execOp, ha.ev hx, ha.ev hy, Instr.storeAt, Instr.sureAddr, Sem.run_bind, Sem.run_pure, Result.andThen_ok, run_storeVar hs (hst.box hi) (by simpa using hf) h1]; rfl) (k _ (by simpa using hst.setRow hi (splice cs o u.cells.toList)))
theorem tl_store_row {x y : Operand} {t e : TypeId} {g o i m cap size : Nat} {xs : List Value} {u : Value} (hst : St w0 Z L w) (hx : eev E x = some (.pointer (some ⟨g, o, none⟩))) (hy : eev E y = some u) (hi : L[i]? = some (rowA e size (.slice (some ⟨g, 0, none⟩) m cap) m xs)) (hs : szB P t = some u.cells.size) (hf : o + u.cells.size ≤ m * size) (h1 : oneB u.cells.toList = true)
    (k : ∀ w', St w0 Z (rowA e size (.slice (some ⟨g, 0, none⟩) m cap) m (splice xs o u.cells.toList) :: L.eraseIdx i) w' → TL P n ops rest Q E w') : TL P n ops (⟨none, .store t x y, ty, pos, aft, none⟩ :: rest) Q E w := by
  obtain ⟨cur, hg, hle, hst'⟩ := hst.setRowRow (vs := u.cells.toList) (o := o) hi (by simpa using hf)
  exact tl_skip (fun a ha => by
    simp only [execOp, ha.ev hx, ha.ev hy, Instr.storeAt, Instr.sureAddr, Sem.run_bind, Sem.run_pure, Result.andThen_ok, run_storeVar hs hg (by simpa using hle) h1]) (k _ hst')
theorem tl_alloc {t : TypeId} {z : Value} (hst : St w0 Z L w) (hz : zeroB P t = some z) (hd : Nat.blt d n = true)
    (k : ∀ g w', St w0 Z (cellsA g t z.cells.toList :: L) w' → TL P n ops rest Q ((d, .pointer (some ⟨g, 0, none⟩)) :: E) w') : TL P n ops (⟨some d, .alloc t, ty, pos, aft, none⟩ :: rest) Q E w :=
  tl_run (fun a ha => by
    simp only [execOp, Instr.alloc, Sem.run_bind, run_zeroValue hz, Result.andThen_ok, newVar, newRow]; rfl) hd (k _ _ (hst.alloc t z.cells.toList))
theorem tl_box {t : TypeId} {x : Operand} (hst : St w0 Z L w) (hx : eev E x = some v) (hd : Nat.blt d n = true)
    (k : ∀ g w', St w0 Z (cellsA g t v.cells.toList :: L) w' → TL P n ops rest Q ((d, .pointer (some ⟨g, 0, none⟩)) :: E) w') : TL P n ops (⟨some d, .box t x, ty, pos, aft, none⟩ :: rest) Q E w :=
  tl_run (fun a ha => by
    simp only [execOp, ha.ev hx, Instr.box, newVar, newRow]; rfl) hd (k _ _ (hst.alloc t v.cells.toList))
theorem tl_append {s x : Operand} {t e : TypeId} {size bytes m k c i : Nat} {vs : Value} {B : Option Addr} {xs news : List Value} (hst : St w0 Z L w) (hs : eev E s = some vs) (hx : eev E x = some (.slice B m c)) (hi : L[i]? = some (rowA e size vs k xs))
    (ht : P.underlying t = some (.slice e)) (hE : ElemT P e size bytes) (hl : news.length = m * size) (hr : Rd w B news) (h1 : ∀ u ∈ news, u.oneCell' = true) (hb : (k + m) * bytes ≤ 140737488355328) (h63 : k + m ≤ maxLen) (hd : Nat.blt d n = true)
    (kk : ∀ v' w', St w0 Z (rowA e size v' (k + m) (xs ++ news) :: L.eraseIdx i) w' → TL P n ops rest Q ((d, v') :: E) w') :
    TL P n ops (⟨some d, .call { callee := .builtin .append, args := #[s, x], argTypes := #[t, t] }, ty, pos, aft, none⟩ :: rest) Q E w := by
  obtain ⟨v', w', hrun, hst'⟩ := hst.append (P := P) ty (c := c) hi ht hE hl hr h1 hb h63
  exact tl_run (fun a ha => by
    simp only [execOp, resolve, invoke, builtin, Sem.run_bind, Sem.run_pure, Result.andThen_ok, List.map_toArray, List.map_cons, List.map_nil, ha.ev hs, ha.ev hx, hrun]) hd (kk v' w' hst')
theorem tl_make {l c : Operand} {t e : TypeId} {kl kc : IntKind} {m cap : Int} {size bytes : Nat} {z : Value} (hst : St w0 Z L w) (hl : eev E l = some (.int kl m)) (hc : eev E c = some (.int kc cap)) (ht : P.underlying t = some (.slice e)) (hz : zeroB P e = some z) (hs : szB P e = some size) (hby : (P.info? e).bind (fun i => litO i.bytes) = some bytes)
    (h0 : 0 ≤ m) (h1 : m ≤ cap) (hb : (bytes : Int) * cap ≤ 281474976710656) (h63 : cap ≤ 9223372036854775807) (hd : Nat.blt d n = true)
    (k : ∀ g w', St w0 Z (rowA e size (.slice (some ⟨g, 0, none⟩) m.toNat cap.toNat) m.toNat ((madeCells z.cells (cap.toNat * size)).toList.take (m.toNat * size)) :: L) w' → TL P n ops rest Q ((d, .slice (some ⟨g, 0, none⟩) m.toNat cap.toNat) :: E) w') :
    TL P n ops (⟨some d, .makeSlice t l c, ty, pos, aft, none⟩ :: rest) Q E w := by
  obtain ⟨i, hi, hby'⟩ := Option.bind_eq_some_iff.1 hby
  obtain rfl := litO_eq hby'
  have hsz : i.size = size := by obtain ⟨i', hi', h⟩ := szB_some hs; rw [hi] at hi'; cases hi'; exact h
  have hzz : i.zero = some z := by unfold zeroB at hz; rw [hi] at hz; simpa using hz
  have hr := run_make (P := P) w t e i z ht hi hzz kl kc m cap h0 h1 hb h63
  rw [hsz] at hr
  refine tl_run (fun a ha => by simp only [execOp, ha.ev hl, ha.ev hc, Sem.run_bind, Sem.run_pure, hr, Result.andThen_ok]; rfl) hd (k _ _ ?_)
  refine hst.grow rfl rfl rfl (by simp) (fun b hb => Below.heap_alloc w _ b hb) ⟨hone w.heap.size _, ⟨.inr ⟨w.heap.size, cap.toNat, _, rfl, ?_, by omega, by simp only [maxLen]; omega, size_madeCells _ _, rfl, rfl⟩⟩, Sub.of_one (heap_alloc_new w _), fun b hb => by rw [hone_ne hb]; exact Nat.le_refl _⟩
  have : m.toNat * size ≤ cap.toNat * size := Nat.mul_le_mul_right _ (by omega)
  simp only [List.length_take, Array.length_toList, size_madeCells]; omega

/-! calls -/
def callB (P : Program) (f : FuncId) : Bool := match P.funcs[f]? with | some fn => !(fn.name == "runtime.NumGoroutine") && fn.body.isSome | none => false
theorem run_callFunc {f : FuncId} {args : Array Value} (h : callB P f = true) : (callFunc f args).run P w = .ok (.enter f args) w := by
  unfold callB at h
  split at h
  · rename_i fn hf
    simp only [Bool.and_eq_true, Bool.not_eq_true'] at h
    have h1 : ¬ fn.name = "runtime.NumGoroutine" := by simpa using h.1
    have hb : ¬ fn.body = none := by cases hx : fn.body <;> simp_all
    simp [callFunc, hf, h1, hb]
  · cases h
/-- a call returns: R says what, in which world -/
def Ret {ρ : Type} (w : World) (Z : Nat → Prop) (val : ρ → Value) (L : ρ → List Assn) (φ : ρ → World → Prop) : Ending → World → Prop := fun e w' => ∃ r, e = .returned (val r) ∧ St w Z (L r) w' ∧ φ r w'
def evs (E : Env) : List Operand → Option (List Value)
  | [] => some []
  | x :: r => match eev E x, evs E r with | some v, some vs => some (v :: vs) | _, _ => none
theorem evs_map {a : Act} (ha : EnvOk n E a) : ∀ {xs : List Operand} {vs : List Value}, evs E xs = some vs → xs.map a.eval = vs
  | [], vs, h => by simp [evs] at h; subst h; rfl
  | x :: r, vs, h => by
    simp only [evs] at h
    split at h
    · rename_i v vs' h1 h2
      cases h
      simp [ha.ev h1, evs_map ha h2]
    · cases h
theorem tl_call {ρ : Type} {val : ρ → Value} {M : ρ → List Assn} {φ : ρ → World → Prop} {fo : Operand} {f : FuncId} {first cap vs : List Value} {xs : List Operand} {ats : Array TypeId} (hst : St w0 Z L w) (hf : eev E fo = some (.func (.func f) first.toArray cap.toArray)) (hb : callB P f = true) (hx : evs E xs = some vs)
    (hc : Calls P f (first ++ vs ++ cap).toArray w (Ret w no val M φ)) (hd : Nat.blt d n = true)
    (k : ∀ r w', St w0 Z (M r ++ L) w' → φ r w' → TL P n ops rest Q ((d, val r) :: E) w') :
    TL P n ops (⟨some d, .call { callee := .value fo, args := xs.toArray, argTypes := ats }, ty, pos, aft, none⟩ :: rest) Q E w :=
  tl_eff rfl fun K hK a ha => by
    unfold Oper.wp
    have hr : (execOp a.eval ⟨some d, .call { callee := .value fo, args := xs.toArray, argTypes := ats }, ty, pos, aft, none⟩).run P w = .ok (.enter f (first ++ vs ++ cap).toArray) w := by
      have hm : xs.map a.eval = vs := evs_map ha hx
      simp only [execOp, resolve, Deferred.ofValue, ha.ev hf, invoke, Sem.run_bind, Sem.run_pure, Result.andThen_ok, List.map_toArray, hm]
      simp [run_callFunc hb]
    rw [hr]
    exact hc.mono fun e w' ⟨r, he, hs, hp⟩ => by
      subst he
      exact hK _ _ ((k r w' (hst.call hs) hp).go _ (ha.put hd _))
theorem tl_callX {ρ : Type} {val : ρ → Value} {M : ρ → List Assn} {φ : ρ → World → Prop} {fo : Operand} {f : FuncId} {first cap vs : List Value} {xs : List Operand} {ats : Array TypeId} {A : Assn} {Y : Nat → Prop} {i : Nat} (hst : St w0 Z L w) (hf : eev E fo = some (.func (.func f) first.toArray cap.toArray)) (hb : callB P f = true) (hx : evs E xs = some vs)
    (hi : L[i]? = some A) (hY : ∀ k, A k → ∀ b, Y b → k b ≠ none)
    (hc : Calls P f (first ++ vs ++ cap).toArray w (Ret w Y val M φ)) (hd : Nat.blt d n = true)
    (k : ∀ r w', St w0 Z (M r ++ L.eraseIdx i) w' → φ r w' → TL P n ops rest Q ((d, val r) :: E) w') :
    TL P n ops (⟨some d, .call { callee := .value fo, args := xs.toArray, argTypes := ats }, ty, pos, aft, none⟩ :: rest) Q E w :=
  tl_eff rfl fun K hK a ha => by
    unfold Oper.wp
    have hr : (execOp a.eval ⟨some d, .call { callee := .value fo, args := xs.toArray, argTypes := ats }, ty, pos, aft, none⟩).run P w = .ok (.enter f (first ++ vs ++ cap).toArray) w := by
      have hm : xs.map a.eval = vs := evs_map ha hx
      simp only [execOp, resolve, Deferred.ofValue, ha.ev hf, invoke, Sem.run_bind, Sem.run_pure, Result.andThen_ok, List.map_toArray, hm]
      simp [run_callFunc hb]
    rw [hr]
    exact hc.mono fun e w' ⟨r, he, hs, hp⟩ => by
      subst he
      exact hK _ _ ((k r w' (hst.callX hi hY hs) hp).go _ (ha.put hd _))
theorem tl_callf {ρ : Type} {val : ρ → Value} {M : ρ → List Assn} {φ : ρ → World → Prop} {f : FuncId} {vs : List Value} {xs : List Operand} {ats : Array TypeId} (hst : St w0 Z L w) (hb : callB P f = true) (hx : evs E xs = some vs)
    (hc : Calls P f vs.toArray w (Ret w no val M φ)) (hd : Nat.blt d n = true)
    (k : ∀ r w', St w0 Z (M r ++ L) w' → φ r w' → TL P n ops rest Q ((d, val r) :: E) w') :
    TL P n ops (⟨some d, .call { callee := .value (.func f), args := xs.toArray, argTypes := ats }, ty, pos, aft, none⟩ :: rest) Q E w :=
  tl_call (first := []) (cap := []) hst rfl hb hx (by simpa using hc) hd k
end ops

/-! entering, leaving -/
def envOf : Nat → List Value → Env
  | _, [] => []
  | i, v :: r => (i, v) :: envOf (i + 1) r
theorem envOf_get : ∀ (vs : List Value) (i d : Nat) (v : Value), eget (envOf i vs) d = some v → i ≤ d ∧ vs[d - i]? = some v
  | [], i, d, v, h => by cases h
  | u :: r, i, d, v, h => by
    simp only [envOf] at h
    rw [eget_cons] at h
    by_cases e : i = d
    · subst e; rw [if_pos rfl] at h; cases h; simp
    · rw [if_neg e] at h
      obtain ⟨h1, h2⟩ := envOf_get r (i + 1) d v h
      refine ⟨by omega, ?_⟩
      have : d - i = (d - (i + 1)) + 1 := by omega
      rw [this]; simpa using h2
theorem calls_of_t {P : Program} {f : FuncId} {fn : Func} {c : Code} {vs : List Value} {w : World} {R : Ending → World → Prop} (n : Nat) (hf : P.funcs[f]? = some fn) (hb : fn.body = some c) (hn : fn.ntmps = n) (hle : Nat.ble vs.length n = true)
    (h : T P n c (.body fn R) (envOf 0 vs) w) : Calls P f vs.toArray w R := by
  have hle' : vs.length ≤ n := by simpa using hle
  subst hn
  refine calls_of_wp hf hb (h.go _ ⟨rfl, by simp; omega, fun d v hv => ?_⟩)
  obtain ⟨_, h2⟩ := envOf_get vs 0 d v hv
  simp only [Nat.sub_zero] at h2
  have : d < vs.length := (List.getElem?_eq_some_iff.1 h2).1
  rw [Array.getElem?_append_left (by simpa using this)]
  simpa using h2
/-- what a result variable holds at the end -/
def ResV (P : Program) (E : Env) (w : World) : ResultVar → Value → Prop
  | .tmp t, v => eget E t = some v
  | .cell a t, v => ∃ p, eget E a = some (.pointer (some p)) ∧ (loadVar t p).run P w = .ok v w
def ResVs (P : Program) (E : Env) (w : World) : List ResultVar → List Value → Prop
  | [], [] => True
  | r :: rs, v :: vs => ResV P E w r v ∧ ResVs P E w rs vs
  | _, _ => False
def resVal : List Value → Value
  | [v] => v
  | vs => .tuple vs.toArray
theorem run_res {P : Program} {n : Nat} {E : Env} {w : World} {a : Act} (ha : EnvOk n E a) : ∀ {rs : List ResultVar} {vs : List Value}, ResVs P E w rs vs →
    (rs.mapM (m := Sem) fun | .tmp t => pure (a.tmps.getD t undef) | .cell p t => do loadVar t (← asAddr (a.tmps.getD p undef))).run P w = .ok vs w
  | [], [], _ => by simp
  | r :: rs, v :: vs, h => by
    have ih := run_res ha h.2
    have h1 := h.1
    cases r with
    | tmp t =>
      simp only [ResV] at h1
      have hg : a.tmps.getD t undef = v := by simp [ha.get _ _ h1]
      simp only [List.mapM_cons, Sem.run_bind, hg, Sem.run_pure, Result.andThen_ok, ih]
    | cell p t =>
      obtain ⟨q, hq, hr⟩ := h1
      have hg : a.tmps.getD p undef = .pointer (some q) := by simp [ha.get _ _ hq]
      have h2 : (asAddr (.pointer (some q))).run P w = .ok q w := rfl
      simp only [List.mapM_cons, Sem.run_bind, hg, h2, Sem.run_pure, Result.andThen_ok, hr, ih]
  | [], _ :: _, h => h.elim
  | _ :: _, [], h => h.elim
theorem rt_body {P : Program} {n : Nat} {E : Env} {w : World} {fn : Func} {R : Ending → World → Prop} {rs : List ResultVar} (vs : List Value) (hr : fn.results = rs.toArray) (h : ResVs P E w rs vs) (hR : R (.returned (resVal vs)) w) : RT P n (.body fn R) E w := by
  refine ⟨fun a ha => ⟨ha.defers, resVal vs, ?_, hR⟩⟩
  have h1 := run_res (P := P) ha h
  unfold results
  rw [hr, List.mapM_toArray]
  rw [Sem.run_bind, Sem.run_map]
  refine (congrArg (fun r => Result.andThen (Result.andThen r _) _) h1).trans ?_
  simp only [Result.andThen_ok, Sem.run_pure]
  congr 1
  match vs with
  | [] => rfl
  | [v] => rfl
  | v :: u :: r => simp [resVal]
theorem n_body {P : Program} {n : Nat} {E : Env} {w : World} {fn : Func} {R : Ending → World → Prop} (hr : fn.results = #[]) (hR : R (.returned (.tuple #[])) w) : N P n (.body fn R) E w := ⟨fun _ ha =>
  ⟨ha.defers, .tuple #[], results_none hr _ _ _, hR⟩⟩

/-! numbers in their range -/
theorem w64 {x : Int} (h : -9223372036854775808 ≤ x ∧ x ≤ 9223372036854775807) : IntKind.i64.wrap x = x := by rw [IntKind.wrap_i64]; omega
theorem wu64 {x : Int} (h : 0 ≤ x ∧ x ≤ 18446744073709551615) : IntKind.u64.wrap x = x := by rw [IntKind.wrap_u64]; omega
theorem wu32 {x : Int} (h : 0 ≤ x ∧ x ≤ 4294967295) : IntKind.u32.wrap x = x := by rw [IntKind.wrap_u32]; omega
theorem wu16 {x : Int} (h : 0 ≤ x ∧ x ≤ 65535) : IntKind.u16.wrap x = x := by rw [IntKind.wrap_u16]; omega
theorem wu8 {x : Int} (h : 0 ≤ x ∧ x ≤ 255) : IntKind.u8.wrap x = x := by rw [IntKind.wrap_u8]; omega

section more
variable {P : Program} {n : Nat} {Q : Cont} {E : Env} {w : World} {ops : Array Oper} {rest : List Oper}
/-- what a guard asks is decided here -/
theorem env_case {b c : Bool} {dj : Nat} {a : Act} (hv : eget E dj = some (.bool b)) (h : b = c) (ha : EnvOk n E a) : EnvOk n ((dj, .bool c) :: E) a := ha.sub fun d v hd => by
  rw [eget_cons] at hd
  by_cases e : dj = d
  · subst e; rw [if_pos rfl] at hd; cases hd; rw [← h]; exact hv
  · rw [if_neg e] at hd; exact hd
section
variable {op : Op} {ty : TypeId} {pos : String} {aft : Array Edge} {j dj d : Nat} {b : Bool}
theorem tl_guard_t (hj : (ops[j]?).bind (·.dst) = some dj) (hv : eget E dj = some (.bool b)) (hd : Nat.blt d n = true)
    (ht : b = true → TL P n ops (⟨some d, op, ty, pos, aft, none⟩ :: rest) Q ((dj, .bool true) :: E) w) (hf : b = false → TL P n ops rest Q ((d, undef) :: (dj, .bool false) :: E) w) :
    TL P n ops (⟨some d, op, ty, pos, aft, some (j, true)⟩ :: rest) Q E w := by
  have h0 : ∀ c, eget ((dj, Value.bool c) :: E) dj = some (.bool c) := fun c => by rw [eget_cons, if_pos rfl]
  cases hb : b
  · exact ⟨fun a ha => (tl_guard_off (b := false) hj (h0 false) rfl hd (hf hb)).go a (env_case hv hb ha)⟩
  · exact ⟨fun a ha => (tl_guard_on hj (h0 true) (ht hb)).go a (env_case hv hb ha)⟩
theorem tl_guard_f (hj : (ops[j]?).bind (·.dst) = some dj) (hv : eget E dj = some (.bool b)) (hd : Nat.blt d n = true)
    (hf : b = false → TL P n ops (⟨some d, op, ty, pos, aft, none⟩ :: rest) Q ((dj, .bool false) :: E) w) (ht : b = true → TL P n ops rest Q ((d, undef) :: (dj, .bool true) :: E) w) :
    TL P n ops (⟨some d, op, ty, pos, aft, some (j, false)⟩ :: rest) Q E w := by
  have h0 : ∀ c, eget ((dj, Value.bool c) :: E) dj = some (.bool c) := fun c => by rw [eget_cons, if_pos rfl]
  cases hb : b
  · exact ⟨fun a ha => (tl_guard_on hj (h0 false) (hf hb)).go a (env_case hv hb ha)⟩
  · exact ⟨fun a ha => (tl_guard_off (b := true) hj (h0 true) rfl hd (ht hb)).go a (env_case hv hb ha)⟩
theorem tl_guard_t0 (hj : (ops[j]?).bind (·.dst) = some dj) (hv : eget E dj = some (.bool b))
    (ht : b = true → TL P n ops (⟨none, op, ty, pos, aft, none⟩ :: rest) Q ((dj, .bool true) :: E) w) (hf : b = false → TL P n ops rest Q ((dj, .bool false) :: E) w) :
    TL P n ops (⟨none, op, ty, pos, aft, some (j, true)⟩ :: rest) Q E w := by
  have h0 : ∀ c, eget ((dj, Value.bool c) :: E) dj = some (.bool c) := fun c => by rw [eget_cons, if_pos rfl]
  cases hb : b
  · exact ⟨fun a ha => (tl_guard_off0 (b := false) hj (h0 false) rfl (hf hb)).go a (env_case hv hb ha)⟩
  · exact ⟨fun a ha => (tl_guard_on hj (h0 true) (ht hb)).go a (env_case hv hb ha)⟩
theorem tl_guard_f0 (hj : (ops[j]?).bind (·.dst) = some dj) (hv : eget E dj = some (.bool b))
    (hf : b = false → TL P n ops (⟨none, op, ty, pos, aft, none⟩ :: rest) Q ((dj, .bool false) :: E) w) (ht : b = true → TL P n ops rest Q ((dj, .bool true) :: E) w) :
    TL P n ops (⟨none, op, ty, pos, aft, some (j, false)⟩ :: rest) Q E w := by
  have h0 : ∀ c, eget ((dj, Value.bool c) :: E) dj = some (.bool c) := fun c => by rw [eget_cons, if_pos rfl]
  cases hb : b
  · exact ⟨fun a ha => (tl_guard_on hj (h0 false) (hf hb)).go a (env_case hv hb ha)⟩
  · exact ⟨fun a ha => (tl_guard_off0 (b := true) hj (h0 true) rfl (ht hb)).go a (env_case hv hb ha)⟩
end
end more
end Go.Proofs.YtkjpemkankefnaaDoor
