/-
  THE SECOND ENGINE, fifth part: what turns memory; structs and slices written out; calls. No program in sight.
-/
import Derived.Test.YtkjpemkankefnaaDoorNd
import Derived.Lib.AppendZerosOnto
import Derived.Laws.CopyRow
set_option linter.unusedVariables false
namespace Go.Proofs.YtkjpemkankefnaaDoor
open Go.RowKit

/-- a list of values, each with its segments -/
class Sgs (ps : List (Nat × Value)) (qs : outParam (List (Nat × List Cs))) : Prop where
  h : (ps.map (·.1)) = (qs.map (·.1)) ∧ ∀ (i : Nat) (p : Nat × Value) (q : Nat × List Cs), ps[i]? = some p → qs[i]? = some q → p.2.cells.toList = flat q.2 ∧ okS q.2
instance Sgs.nil : Sgs [] [] := ⟨rfl, fun i p q h => by simp at h⟩
instance Sgs.cons {i : Nat} {v : Value} {s : List Cs} {r : List (Nat × Value)} {r' : List (Nat × List Cs)} [h : Sg v s] [h' : Sgs r r'] : Sgs ((i, v) :: r) ((i, s) :: r') := ⟨by simp [h'.h.1], fun j p q hp hq => by
  cases j with
  | zero => simp at hp hq; subst hp hq; exact ⟨h.h.1, h.h.2.1⟩
  | succ j => exact h'.h.2 j p q (by simpa using hp) (by simpa using hq)⟩
/-- fields laid one after the other -/
def bldS (place : Nat → Option (Nat × Nat)) : List Cs → List (Nat × List Cs) → Option (List Cs)
  | z, [] => some z
  | z, (i, s) :: r => match place i with
    | some (off, sz) => bif Nat.beq sz (lenS s) then (match putS z off s with | some z' => bldS place z' r | none => none) else none
    | none => none
theorem bldS_fill {place : Nat → Option (Nat × Nat)} : ∀ {ps : List (Nat × Value)} {qs : List (Nat × List Cs)} {z r : List Cs}, okS z → (ps.map (·.1)) = (qs.map (·.1)) → (∀ (i : Nat) (p : Nat × Value) (q : Nat × List Cs), ps[i]? = some p → qs[i]? = some q → p.2.cells.toList = flat q.2 ∧ okS q.2) →
    bldS place z qs = some r → FillP place (flat z) ps (flat r) ∧ okS r
  | [], [], z, r, ok, _, _, h => by simp [bldS] at h; subst h; exact ⟨rfl, ok⟩
  | [], _ :: _, _, _, _, h, _, _ => by simp at h
  | _ :: _, [], _, _, _, h, _, _ => by simp at h
  | (i, v) :: ps, (j, s) :: qs, z, r, ok, hi, hall, h => by
    simp only [List.map_cons, List.cons.injEq] at hi
    obtain ⟨rfl, hi⟩ := hi
    obtain ⟨h1, h2⟩ := hall 0 _ _ rfl rfl
    simp only at h1 h2
    simp only [bldS] at h
    split at h
    · rename_i off sz hp
      cases hb : Nat.beq sz (lenS s) <;> rw [hb] at h
      · simp at h
      have hsz := beqT hb
      simp only [cond_true] at h
      split at h
      · rename_i z' hz
        obtain ⟨e1, e2, e3, e4⟩ := putS_ok ok h2 hz
        obtain ⟨f1, f2⟩ := bldS_fill e2 hi (fun k p q hp hq => hall (k + 1) p q (by simpa using hp) (by simpa using hq)) h
        refine ⟨⟨off, sz, hp, ?_, ?_, ?_⟩, f2⟩
        · rw [h1, flat_len h2, hsz]
        · rw [flat_len ok]; omega
        · rw [h1, e1]; exact f1
      · cases h
    · cases h

section
variable {P : Program} {n : Nat} {w0 : World} {X : Nat → Prop} {Q : Cont} {E : Env} {L L' : List Assn} {s : Ms} {ops : Array Oper} {rest : List Oper} {v : Value}
variable {d : Nat} {ty : TypeId} {pos : String} {aft : Array Edge} {op : Op} {G : Type} {R : Rep G} {gs : List G}
theorem gbu {t : TypeId} {fs : Array Field} {z cs : List Cs} {parts : List (Nat × Operand)} {ps : List (Nat × Value)} {qs : List (Nat × List Cs)} (hs : P.underlying t = some (.struct fs)) [hz : ZS P t z] (hb : sizedB P fs = true) (hp : evps E parts = some ps) [hq : Sgs ps qs] (hf : bldS (placesOf P fs) z qs = some cs) (hd : Nat.blt d n = true)
    (k : GO P n w0 X (nextM s) ops rest Q ((d, Ag cs) :: E) L) : GO P n w0 X s ops (⟨some d, .build t parts.toArray, ty, pos, aft, none⟩ :: rest) Q E L := by
  refine go_yld rfl (fun _ _ => ?_) hd k
  have h0 := hz.h
  obtain ⟨zv, hzv, hzc⟩ := Option.map_eq_some_iff.1 h0
  have := (bldS_fill hz.ok hq.h.1 hq.h.2 hf).1
  exact y_build hs hzv hb hp (by rw [hzc]; exact this)
/-! new blocks -/
theorem St.addBox {w : World} (hw : St w0 X L w) (t : TypeId) (cs : List Cs) (ok : okS cs) : St w0 X (boxA w.heap.size t cs :: L) (w.alloc (.cells (flat cs).toArray t)) :=
  hw.grow rfl rfl rfl (by simp) (fun b hb => Below.heap_alloc w _ b hb) ⟨_, ⟨ok, rfl⟩, Sub.of_one (heap_alloc_new w _), fun b hb => by rw [hone_ne hb]; exact Nat.le_refl _⟩
theorem ga {t : TypeId} {z : List Cs} [hz : ZS P t z] (hd : Nat.blt d n = true) (hD : ∀ g : Nat, Dm w0 X ops s (boxA g t z :: L))
    (k : ∀ g : Nat, GO P n w0 X (nextM s) ops rest Q ((d, .pointer (some ⟨g, 0, none⟩)) :: E) (boxA g t z :: L)) : GO P n w0 X s ops (⟨some d, .alloc t, ty, pos, aft, none⟩ :: rest) Q E L := by
  obtain ⟨zv, hzv, hzc⟩ := Option.map_eq_some_iff.1 hz.h
  refine go_hv (ρ := Nat) (φ := fun _ => True) rfl (fun w hw rest Q k => ?_) (fun g _ => hD g) (fun g _ => k g)
  refine tl_run (fun a ha => by simp only [execOp, Instr.alloc, Sem.run_bind, run_zeroValue hzv, Result.andThen_ok, newVar, newRow]; rfl) hd (k w.heap.size _ trivial ?_)
  have := hw.addBox t z hz.ok
  rw [← hzc] at this
  simpa using this
theorem gx {t : TypeId} {x : Operand} {z : List Cs} (hx : eev E x = some v) [hz : Sg v z] (hd : Nat.blt d n = true) (hD : ∀ g : Nat, Dm w0 X ops s (boxA g t z :: L))
    (k : ∀ g : Nat, GO P n w0 X (nextM s) ops rest Q ((d, .pointer (some ⟨g, 0, none⟩)) :: E) (boxA g t z :: L)) : GO P n w0 X s ops (⟨some d, .box t x, ty, pos, aft, none⟩ :: rest) Q E L := by
  refine go_hv (ρ := Nat) (φ := fun _ => True) rfl (fun w hw rest Q k => ?_) (fun g _ => hD g) (fun g _ => k g)
  refine tl_run (fun a ha => by simp only [execOp, ha.ev hx, Instr.box, newVar, newRow]; rfl) hd (k w.heap.size _ trivial ?_)
  have := hw.addBox t z hz.h.2.1
  rw [← hz.h.1] at this
  simpa using this
/-! stores -/
theorem FBox.upd {g : Nat} {t : TypeId} {cs cs' : List Cs} {w : World} {i : Nat} (ok' : okS cs') (hi : L[i]? = some (boxA g t cs)) (hw : St w0 X L w) : St w0 X (boxA g t cs' :: L.eraseIdx i) (w.setRow g (flat cs').toArray) := by
  refine hw.step hi rfl rfl rfl (by simp) fun k hk hs => ?_
  obtain ⟨ok, rfl⟩ := hk
  refine ⟨_, ⟨ok', rfl⟩, Sub.of_one (setRow_heap w g _ _ t (0, 0) hs.one), fun b hb => .inl ?_, fun b _ hb => setRow_other w g b _ ?_⟩
  · rw [hone_ne hb, hone_self]; simp
  · rintro rfl; rw [hone_self] at hb; cases hb
theorem gst {x y : Operand} {t tt : TypeId} {g o : Nat} {cs cs' s' : List Cs} {u : Value} {F : Assn → List Assn} (hx : eev E x = some (.pointer (some ⟨g, o, none⟩))) (hy : eev E y = some u) [hb : FBox L g tt cs] [hs : Sg u s'] (hp : putS cs o s' = some cs') (hz : szB P t = some (lenS s')) [hF : UpdF L (boxA g tt cs) F] (hD : Dm w0 X ops s (F (boxA g tt cs')))
    (k : GO P n w0 X (nextM s) ops rest Q E (F (boxA g tt cs'))) : GO P n w0 X s ops (⟨none, .store t x y, ty, pos, aft, none⟩ :: rest) Q E L := by
  refine go_hv (ρ := Unit) (E' := fun _ => E) (L' := fun _ => F (boxA g tt cs')) (φ := fun _ => True) rfl (fun w hw rest Q k => ?_) (fun _ _ => hD) (fun _ _ => k)
  obtain ⟨ok, hc⟩ := box_cells hb hw
  obtain ⟨h1, h2, h3⟩ := hs.h
  obtain ⟨e1, e2, e3, e4⟩ := putS_ok ok h2 hp
  have hcs : u.cells.size = lenS s' := by rw [← Array.length_toList, h1, flat_len h2]
  have hst' : St w0 X (F (boxA g tt cs')) (w.setRow g (flat cs').toArray) := hF.st fun i hi => FBox.upd e2 hi hw
  refine tl_skip (fun a ha => ?_) (k () _ trivial hst')
  obtain ⟨kk, ⟨_, rfl⟩, hsub⟩ := hw.getM hb.get
  have := run_storeVar (P := P) (w := w) (t := t) (tt := tt) (g := g) (o := o) (cur := (flat cs).toArray) (v := u) (by rw [hcs]; exact hz) hsub.one (by rw [hcs]; simp [flat_len ok]; omega) (by rw [h1]; exact h3)
  simp only [execOp, ha.ev hx, ha.ev hy, Instr.storeAt, Instr.sureAddr, Sem.run_bind, Sem.run_pure, Result.andThen_ok, this, h1, e1]
theorem all_set {gs : List G} {j : Nat} {g' : G} (hj : j < gs.length) : R.all (gs.set j g') = splice (R.all gs) (j * R.sz) (flat (R.sg g')) := by
  have hfl := Rep.flen (R := R) g'
  rw [List.set_eq_take_append_cons_drop, if_pos hj, Rep.all_append, ← Rep.all_take]
  simp only [splice]
  have : R.all (g' :: gs.drop (j + 1)) = flat (R.sg g') ++ R.all (gs.drop (j + 1)) := by simp [Rep.all]
  rw [this, ← Rep.all_drop, hfl, Nat.add_mul, Nat.one_mul, List.append_assoc]
theorem row_set {e : TypeId} {sv : Sv} {m j : Nat} {g' : G} {w : World} {i : Nat} (hj : j < m) (hi : L[i]? = some (rw_ e R sv m gs)) (hw : St w0 X L w) :
    ∃ b cur, sv.A = some ⟨b, 0, none⟩ ∧ w.heap[b]? = some (.cells cur e (0, 0)) ∧ j * R.sz + R.sz ≤ cur.size ∧ gs.length = m ∧ (∀ off u, (flat (R.sg (gs.getD j g')))[off]? = some u → cur[j * R.sz + off]? = some u) ∧ St w0 X (rw_ e R sv m (gs.set j g') :: L.eraseIdx i) (w.setRow b (splice cur.toList (j * R.sz) (flat (R.sg g'))).toArray) := by
  obtain ⟨k, ⟨hl, hk⟩, hs⟩ := hw.get hi
  subst hl
  rcases hk with ⟨_, h0⟩ | ⟨b, ys, rfl, hm, rfl⟩
  · omega
  · have hle : j * R.sz + R.sz ≤ gs.length * R.sz := by
      have := Nat.mul_le_mul_right R.sz (show j + 1 ≤ gs.length by omega)
      rwa [Nat.add_mul, Nat.one_mul] at this
    have hsz : (R.all (gs ++ ys)).length = gs.length * R.sz + ys.length * R.sz := by rw [Rep.len, List.length_append, Nat.add_mul]
    refine ⟨b, _, rfl, hs.one, by rw [List.size_toArray, hsz]; omega, rfl, fun off u hu => ?_, ?_⟩
    · rw [List.getD_eq_getElem?_getD, List.getElem?_eq_getElem hj, Option.getD_some] at hu
      have hj' : j < (gs ++ ys).length := by simp; omega
      have h6 := Rep.at_ (R := R) (gs := gs ++ ys) hj' (by rw [List.getElem_append_left hj]; exact hu)
      simpa using h6
    · refine hw.step hi rfl rfl rfl (by simp) fun k hk' hs' => ?_
      obtain ⟨_, hk2⟩ := hk'
      rcases hk2 with ⟨h0, _⟩ | ⟨b', ys', he', hm', rfl⟩
      · cases h0
      simp only [Sv.mk.injEq, Option.some.injEq, Addr.mk.injEq, and_true] at he'
      obtain ⟨rfl, hy⟩ := he'
      refine ⟨hone b (.cells (R.all (gs.set j g' ++ ys)).toArray e (0, 0)), ⟨by simp, .inr ⟨b, ys, rfl, hm, rfl⟩⟩, ?_, fun b' hb => .inl (by rw [hone_ne hb, hone_self]; simp), fun b' _ hb => setRow_other w b b' _ (by rintro rfl; rw [hone_self] at hb; cases hb)⟩
      have e1 : gs.set j g' ++ ys = (gs ++ ys).set j g' := by rw [List.set_append_left _ _ hj]
      rw [e1, all_set (by simp; omega)]
      exact Sub.of_one (setRow_heap w b _ _ e (0, 0) hs.one)
/-- an element, whole -/
theorem ge {x y : Operand} {t e : TypeId} {sv : Sv} {m sz : Nat} {i : Int} {u : Value} {g' : G} {s' : List Cs} {F : Assn → List Assn} (hx : eev E x = some (.pointer (some (el sv.A m sv.c sz i)))) (hy : eev E y = some u) [hr : FRow L sv m e R gs] [hs : SzIs R sz] [hI : Ix i m] [hsg : Sg u s'] (hg : R.sg g' = s') (hz : szB P t = some (lenS s')) [hF : UpdF L (rw_ e R sv m gs) F] (hD : Dm w0 X ops s (F (rw_ e R sv m (gs.set i.toNat g'))))
    (k : GO P n w0 X (nextM s) ops rest Q E (F (rw_ e R sv m (gs.set i.toNat g')))) : GO P n w0 X s ops (⟨none, .store t x y, ty, pos, aft, none⟩ :: rest) Q E L := by
  refine go_hv (ρ := Unit) (E' := fun _ => E) (L' := fun _ => F (rw_ e R sv m (gs.set i.toNat g'))) (φ := fun _ => True) rfl (fun w hw rest Q k => ?_) (fun _ _ => hD) (fun _ _ => k)
  have hI' := hI.h
  obtain ⟨h1, h2, h3⟩ := hsg.h
  have hszz := hs.h; subst hszz
  obtain ⟨i0, hi0, hF0⟩ := hF.get
  obtain ⟨b, cur, hA, hheap, hfit, _, _, hst⟩ := row_set (g' := g') (j := i.toNat) (by omega) hi0 hw
  have hst' : St w0 X (F (rw_ e R sv m (gs.set i.toNat g'))) (w.setRow b (splice cur.toList (i.toNat * R.sz) (flat (R.sg g'))).toArray) := by
    rw [hF0]; exact hst.set (List.getElem?_eq_some_iff.1 hi0).1
  have hcs : u.cells.size = lenS s' := by rw [← Array.length_toList, h1, flat_len h2]
  have hlen : lenS s' = R.sz := by rw [← hg]; exact (R.ok g').2.1
  refine tl_skip (fun a ha => ?_) (k () _ trivial hst')
  rw [hA] at hx
  rw [el_eq, Nat.zero_add] at hx
  have := run_storeVar (P := P) (w := w) (t := t) (tt := e) (g := b) (o := i.toNat * R.sz) (cur := cur) (v := u) (by rw [hcs]; exact hz) hheap (by rw [hcs, hlen]; exact hfit) (by rw [h1]; exact h3)
  simp only [execOp, ha.ev hx, ha.ev hy, Instr.storeAt, Instr.sureAddr, Sem.run_bind, Sem.run_pure, Result.andThen_ok, this, h1, hg]
/-- a part of an element -/
theorem gep {x y : Operand} {t e : TypeId} {p : Addr} {sv : Sv} {m sz off : Nat} {i : Int} {u : Value} [Inhabited G] (g' : G) {s' : List Cs} {F : Assn → List Assn} (hx : eev E x = some (.pointer (some p))) (hy : eev E y = some u) [hpt : PtrN p sv.A m sv.c sz i off] [hr : FRow L sv m e R gs] [hs : SzIs R sz] [hI : Ix i m] [hsg : Sg u s'] (hg : putS (R.sg (ixd gs i)) off s' = some (R.sg g')) (hz : szB P t = some (lenS s')) [hF : UpdF L (rw_ e R sv m gs) F] (hD : Dm w0 X ops s (F (rw_ e R sv m (gs.set i.toNat g'))))
    (k : GO P n w0 X (nextM s) ops rest Q E (F (rw_ e R sv m (gs.set i.toNat g')))) : GO P n w0 X s ops (⟨none, .store t x y, ty, pos, aft, none⟩ :: rest) Q E L := by
  refine go_hv (ρ := Unit) (E' := fun _ => E) (L' := fun _ => F (rw_ e R sv m (gs.set i.toNat g'))) (φ := fun _ => True) rfl (fun w hw rest Q k => ?_) (fun _ _ => hD) (fun _ _ => k)
  have hI' := hI.h
  obtain ⟨h1, h2, h3⟩ := hsg.h
  have hszz := hs.h; subst hszz
  obtain ⟨i0, hi0, hF0⟩ := hF.get
  obtain ⟨b, cur, hA, hheap, hfit, hgl, hcells, hst⟩ := row_set (g' := g') (j := i.toNat) (by omega) hi0 hw
  have hst' : St w0 X (F (rw_ e R sv m (gs.set i.toNat g'))) (w.setRow b (splice cur.toList (i.toNat * R.sz) (flat (R.sg g'))).toArray) := by
    rw [hF0]; exact hst.set (List.getElem?_eq_some_iff.1 hi0).1
  have hcs : u.cells.size = lenS s' := by rw [← Array.length_toList, h1, flat_len h2]
  obtain ⟨e1, e2, e3, e4⟩ := putS_ok (R.ok _).1 h2 hg
  have e5 : lenS (R.sg (ixd gs i)) = R.sz := (R.ok _).2.1
  refine tl_skip (fun a ha => ?_) (k () _ trivial hst')
  rw [hpt.h, hA, el_eq, Nat.zero_add, Addr.add_lit] at hx
  have := run_storeVar (P := P) (w := w) (t := t) (tt := e) (g := b) (o := i.toNat * R.sz + off) (cur := cur) (v := u) (by rw [hcs]; exact hz) hheap (by rw [hcs]; omega) (by rw [h1]; exact h3)
  simp only [execOp, ha.ev hx, ha.ev hy, Instr.storeAt, Instr.sureAddr, Sem.run_bind, Sem.run_pure, Result.andThen_ok, this, h1]
  congr 2
  -- the cells of the part, laid into the row, are the row with the whole element laid
  have hix : gs.getD i.toNat g' = ixd gs i := by
    have : i.toNat < gs.length := by omega
    simp [ixd, this]
  rw [hix] at hcells
  have hfl : (flat (R.sg (ixd gs i))).length = R.sz := Rep.flen _
  have hfl' : (flat (R.sg g')).length = R.sz := Rep.flen _
  have hcl : cur.toList.length = cur.size := Array.length_toList
  have hsl : (flat s').length = lenS s' := flat_len h2
  have key : splice cur.toList (i.toNat * R.sz + off) (flat s') = splice cur.toList (i.toNat * R.sz) (flat (R.sg g')) := by
    rw [← e1]
    apply List.ext_getElem?
    intro q
    have hin : (splice (flat (R.sg (ixd gs i))) off (flat s')).length = R.sz := by rw [splice_len (by omega)]; exact hfl
    rw [splice_get (cs := cur.toList) (vs := flat s') (o := i.toNat * R.sz + off) (by omega) q, splice_get (cs := cur.toList) (vs := splice (flat (R.sg (ixd gs i))) off (flat s')) (o := i.toNat * R.sz) (by omega) q, hin]
    by_cases q1 : q < i.toNat * R.sz
    · rw [if_pos (by omega), if_pos q1]
    · rw [if_neg q1]
      by_cases q2 : q < i.toNat * R.sz + R.sz
      · rw [if_pos q2, splice_get (cs := flat (R.sg (ixd gs i))) (vs := flat s') (o := off) (by omega)]
        have h6 : q - i.toNat * R.sz < (flat (R.sg (ixd gs i))).length := by omega
        have h7 := hcells (q - i.toNat * R.sz) _ (List.getElem?_eq_getElem h6)
        have h8 : i.toNat * R.sz + (q - i.toNat * R.sz) = q := by omega
        rw [h8, ← List.getElem?_eq_getElem h6] at h7
        have h7' : cur.toList[q]? = (flat (R.sg (ixd gs i)))[q - i.toNat * R.sz]? := by rw [Array.getElem?_toList]; exact h7
        by_cases q3 : q < i.toNat * R.sz + off
        · rw [if_pos q3, if_pos (show q - i.toNat * R.sz < off by omega)]; exact h7'
        · rw [if_neg q3, if_neg (show ¬ q - i.toNat * R.sz < off by omega)]
          by_cases q4 : q < i.toNat * R.sz + off + (flat s').length
          · rw [if_pos q4, if_pos (show q - i.toNat * R.sz < off + (flat s').length by omega)]; congr 1; omega
          · rw [if_neg q4, if_neg (show ¬ q - i.toNat * R.sz < off + (flat s').length by omega)]; exact h7'
      · rw [if_neg q2, if_neg (by omega), if_neg (by omega)]
  rw [key]
/-! slices that grow -/
theorem zeroCells_all {z : Value} {g0 : G} (hz : z.cells.toList = flat (R.sg g0)) (n : Nat) : (Builtin.zeroCells z.cells n).toList = R.all (List.replicate n g0) := by
  have hzs : z.cells.size = R.sz := by rw [← Array.length_toList, hz, Rep.flen]
  have hlen2 : (R.all (List.replicate n g0)).length = n * R.sz := by rw [Rep.len]; simp
  apply List.ext_getElem?
  intro q
  by_cases hq : q < n * R.sz
  · have hlt : q / R.sz < n := Nat.div_lt_of_lt_mul (by rw [Nat.mul_comm]; exact hq)
    have hmod : q % R.sz < R.sz := Nat.mod_lt _ R.pos
    have h1 := Rep.at_ (R := R) (gs := List.replicate n g0) (i := q / R.sz) (off := q % R.sz) (by simpa using hlt) (u := (flat (R.sg g0))[q % R.sz]'(by rw [Rep.flen]; exact hmod)) (by simp)
    have hqe : q / R.sz * R.sz + q % R.sz = q := by have := Nat.div_add_mod q R.sz; rw [Nat.mul_comm] at this; exact this
    rw [hqe] at h1
    rw [h1, Array.getElem?_toList]
    have hb' : q % R.sz < z.cells.size := by rw [hzs]; exact hmod
    simp only [Builtin.zeroCells, Array.getElem?_map, Array.getElem?_range, hzs, if_pos hq, Option.map_some]
    rw [getElem!_pos z.cells (q % R.sz) hb', ← Array.getElem_toList]
    simp only [hz]
  · rw [List.getElem?_eq_none (by simp [Builtin.zeroCells, hzs]; omega), List.getElem?_eq_none (by omega)]
/-- what is appended: how append runs onto a row of the call's own -/
structure AppR (P : Program) (t tx ty e : TypeId) (sz bytes : Nat) (x : Value) (k : Nat) (news : List Value) (z : Value) (w : World) : Prop where
  room : ∀ (g m cap : Nat) (cur : Array Value), w.heap[g]? = some (.cells cur e (0, 0)) → m + k ≤ cap → m * sz + news.length ≤ cur.size →
    (Builtin.append_ #[t, tx] ty #[.slice (some ⟨g, 0, none⟩) m cap, x]).run P w = .ok (.slice (some ⟨g, 0, none⟩) (m + k) cap) (w.setRow g (cur.toList.take (m * sz) ++ news ++ cur.toList.drop (m * sz + news.length)).toArray)
  none0 : k = 0 → (Builtin.append_ #[t, tx] ty #[.slice none 0 0, x]).run P w = .ok (.slice none 0 0) w
  grow : ∀ (base : Option Addr) (m cap : Nat) (olds : List Value), (Builtin.firstCells sz m (.slice base m cap)).run P w.drew = .ok olds.toArray w.drew → cap < m + k → 0 < k → m + k ≤ 9223372036854775807 → (m + k) * bytes ≤ 140737488355328 →
    (Builtin.append_ #[t, tx] ty #[.slice base m cap, x]).run P w = .ok (.slice (some ⟨w.heap.size, 0, none⟩) (m + k) (grownCap w (m + k) cap e)) (w.drew.alloc (.cells ((olds ++ news).toArray ++ Builtin.zeroCells z.cells (grownCap w (m + k) cap e - (m + k))) e))
theorem row_app {t tx ty e : TypeId} {bytes m k : Nat} {sv : Sv} {x : Value} {gs' : List G} {g0 : G} {z : Value} {w : World} {i : Nat} (hi : L[i]? = some (rw_ e R sv m gs)) (hk : gs'.length = k) (hz : z.cells.toList = flat (R.sg g0)) (ha : AppR P t tx ty e R.sz bytes x k (R.all gs') z w)
    (hb : (m + k) * bytes ≤ 140737488355328) (h63 : m + k ≤ maxLen) (hw : St w0 X L w) :
    ∃ s' w', (Builtin.append_ #[t, tx] ty #[sl sv m, x]).run P w = .ok (sl s' (m + k)) w' ∧ St w0 X (rw_ e R s' (m + k) (gs ++ gs') :: L.eraseIdx i) w' := by
  have h63' : m + k ≤ 9223372036854775807 := by simpa [maxLen] using h63
  obtain ⟨kk, ⟨hl, hrow⟩, hs⟩ := hw.get hi
  subst hk
  have grown : ∀ (base : Option Addr) (cap : Nat), (cap < m + gs'.length) → sv = ⟨base, cap⟩ → (Builtin.firstCells R.sz m (.slice base m cap)).run P w.drew = .ok (R.all gs).toArray w.drew → 0 < gs'.length →
      ∃ s' w', (Builtin.append_ #[t, tx] ty #[sl sv m, x]).run P w = .ok (sl s' (m + gs'.length)) w' ∧ St w0 X (rw_ e R s' (m + gs'.length) (gs ++ gs') :: L.eraseIdx i) w' := by
    intro base cap hc he hf hp
    have hge := grownCap_ge w (m + gs'.length) cap e
    have hcm : grownCap w (m + gs'.length) cap e ≤ maxLen := grownCap_le_maxLen w _ _ e h63
    have hr := ha.grow base m cap (R.all gs) hf hc hp h63' hb
    refine ⟨⟨some ⟨w.heap.size, 0, none⟩, grownCap w (m + gs'.length) cap e⟩, _, by rw [he]; exact hr, ?_⟩
    refine hw.stepT hi rfl ⟨rfl, Nat.le_succ _⟩ rfl (by simp) fun k hk hs' => ⟨hone w.heap.size _, ⟨by simp [hl], .inr ⟨w.heap.size, List.replicate (grownCap w (m + gs'.length) cap e - (m + gs'.length)) g0, ?_, ?_, rfl⟩⟩, ?_, fun b hb => .inr (by rw [hone_ne hb]; exact Nat.le_refl _), fun b hb _ => Below.heap_alloc w.drew _ b hb⟩
    · rw [List.length_replicate]; congr 1; omega
    · rw [List.length_replicate]; omega
    · have := heap_alloc_new w.drew (.cells (((R.all gs) ++ R.all gs').toArray ++ Builtin.zeroCells z.cells (grownCap w (m + gs'.length) cap e - (m + gs'.length))) e)
      refine Sub.of_one ?_
      have e1 : (R.all (gs ++ gs' ++ List.replicate (grownCap w (m + gs'.length) cap e - (m + gs'.length)) g0)).toArray = (((R.all gs) ++ R.all gs').toArray ++ Builtin.zeroCells z.cells (grownCap w (m + gs'.length) cap e - (m + gs'.length))) := by
        apply Array.ext'
        rw [Array.toList_append, zeroCells_all hz, Rep.all_append, Rep.all_append]
      rw [e1]; exact this
  rcases hrow with ⟨rfl, rfl⟩ | ⟨g, ys, rfl, hm, rfl⟩
  · obtain rfl := List.eq_nil_of_length_eq_zero hl
    by_cases h0 : gs'.length = 0
    · obtain rfl := List.eq_nil_of_length_eq_zero h0
      refine ⟨⟨none, 0⟩, w, ha.none0 rfl, ?_⟩
      exact hw.front' hi
    · exact grown none 0 (by omega) rfl (run_firstCells_none w.drew R.sz 0 0 0) (by omega)
  · by_cases hroom : m + gs'.length ≤ m + ys.length
    · have hlen : (R.all (gs ++ ys)).length = m * R.sz + ys.length * R.sz := by rw [Rep.len, List.length_append, hl, Nat.add_mul]
      have hle : gs'.length * R.sz ≤ ys.length * R.sz := Nat.mul_le_mul_right _ (by omega)
      have hr := ha.room g m _ _ hs.one hroom (by rw [List.size_toArray, hlen, Rep.len]; omega)
      refine ⟨⟨some ⟨g, 0, none⟩, m + ys.length⟩, _, hr, ?_⟩
      refine hw.step hi rfl rfl rfl (by simp) fun k hk' hs' => ?_
      obtain ⟨_, hk2⟩ := hk'
      rcases hk2 with ⟨h0, _⟩ | ⟨b', ys', he', hm', rfl⟩
      · cases h0
      simp only [Sv.mk.injEq, Option.some.injEq, Addr.mk.injEq, and_true] at he'
      obtain ⟨rfl, hy⟩ := he'
      refine ⟨hone g (.cells (R.all (gs ++ gs' ++ ys.drop gs'.length)).toArray e (0, 0)), ⟨by simp [hl], .inr ⟨g, ys.drop gs'.length, by simp; omega, by simp; omega, rfl⟩⟩, ?_, fun b' hb => .inl (by rw [hone_ne hb, hone_self]; simp), fun b' _ hb => setRow_other w g b' _ (by rintro rfl; rw [hone_self] at hb; cases hb)⟩
      have e1 : R.all (gs ++ gs' ++ ys.drop gs'.length) = (R.all (gs ++ ys)).toArray.toList.take (m * R.sz) ++ R.all gs' ++ (R.all (gs ++ ys)).toArray.toList.drop (m * R.sz + (R.all gs').length) := by
        have h1 : (R.all (gs ++ ys)).toArray.toList = R.all (gs ++ ys) := rfl
        rw [h1, ← hl, Rep.all_take, List.take_left, Rep.len, ← Nat.add_mul, Rep.all_drop, List.drop_append, List.drop_eq_nil_of_le (Nat.le_add_right _ _), Nat.add_sub_cancel_left]
        simp [Rep.all_append]
      rw [e1]
      exact Sub.of_one (setRow_heap w g _ _ e (0, 0) hs.one)
    · refine grown _ _ (by omega) rfl ?_ (by omega)
      refine run_firstCells_some w.drew R.sz m ⟨g, 0, none⟩ m _ (R.all gs) (by rw [Rep.len, hl]) fun j v hj => ?_
      rw [Addr.add_lit]
      have h1 : w.drew.cell? ⟨g, 0 + j, none⟩ = w.cell? ⟨g, 0 + j, none⟩ := rfl
      rw [h1, Nat.zero_add, cell_of_row w g j _ e (0, 0) hs.one]
      simp only [List.getElem?_toArray, Rep.all_append]
      rw [List.getElem?_append_left (List.getElem?_eq_some_iff.1 hj).1]; exact hj
theorem appR_slice {t ty e : TypeId} {bytes k c : Nat} {B : Option Addr} {gs' : List G} {z : Value} {info : TypeInfo} {w : World} (hr : Slr w R (.slice B k c) gs') (hk : gs'.length = k) (ht : P.underlying t = some (.slice e)) (hinf : P.info? e = some info) (hz : info.zero = some z) (hsz : info.size = R.sz) (hby : info.bytes = bytes) :
    AppR P t t ty e R.sz bytes (.slice B k c) k (R.all gs') z w := by
  subst hk
  obtain ⟨B', c', e', h1, h2, h3, hrd⟩ := hr
  cases e'
  have hsrc : Src P info.size t (.slice B gs'.length c) gs'.length (R.all gs') w := by
    rw [hsz]
    rcases B with _ | a
    · have h0 : gs' = [] := by
        rcases Nat.eq_zero_or_pos gs'.length with h | h
        · exact List.eq_nil_of_length_eq_zero h
        · obtain ⟨b, o, e0, _⟩ := hrd (by rw [Rep.len]; exact Nat.mul_pos h R.pos); cases e0
      subst h0
      exact Src.ofNil w ht c
    · refine Src.ofSlice w ht a _ c (R.all gs') (by rw [Rep.len]) (fun j u hj => ?_) (Rep.one gs')
      obtain ⟨b, o, e0, hc⟩ := hrd (by have := (List.getElem?_eq_some_iff.1 hj).1; omega)
      cases e0
      rw [Addr.add_lit]; exact hc j u hj
  refine ⟨fun g m cap cur hg hroom hfit => ?_, fun h0 => ?_, fun base m cap olds hf hc hp h63 hb => ?_⟩
  · rcases B with _ | a
    · have h0 : gs' = [] := by
        rcases Nat.eq_zero_or_pos gs'.length with h | h
        · exact List.eq_nil_of_length_eq_zero h
        · obtain ⟨b, o, e0, _⟩ := hrd (by rw [Rep.len]; exact Nat.mul_pos h R.pos); cases e0
      subst h0
      have e1 : (cur.toList.take (m * R.sz) ++ R.all ([] : List G) ++ cur.toList.drop (m * R.sz + (R.all ([] : List G)).length)).toArray = cur := by
        rw [Rep.all_nil, List.append_nil, List.length_nil, Nat.add_zero, List.take_append_drop, Array.toArray_toList]
      rw [e1, setRow_self w g cur e (0, 0) hg]
      have hmc : m ≤ cap := by omega
      simp [Builtin.append_, run_underlying ht, sizeOf, typeInfo, hinf, Builtin.lenOf, Builtin.firstCells, hmc, storeCells]
    · have := run_append_room (P := P) w t ty e info ht hinf g m cap cur hg a _ c (R.all gs') (by rw [Rep.len, hsz]) (fun j u hj => by
        obtain ⟨b, o, e0, hc⟩ := hrd (by have := (List.getElem?_eq_some_iff.1 hj).1; omega)
        cases e0
        rw [Addr.add_lit]; exact hc j u hj) (Rep.one gs') hroom (by rw [hsz]; exact hfit)
      rw [hsz] at this; exact this
  · obtain rfl := List.eq_nil_of_length_eq_zero h0
    rcases B with _ | a
    · simp [Builtin.append_, run_underlying ht, sizeOf, typeInfo, hinf, Builtin.lenOf, Builtin.firstCells]
    · simp [Builtin.append_, run_underlying ht, sizeOf, typeInfo, hinf, Builtin.lenOf, Builtin.firstCells, loadCells, loadCellsFrom]
  · have := run_append_grow_src (P := P) w t t ty e info z ht hinf hz base m cap olds (by rw [hsz]; exact hf) (.slice B gs'.length c) gs'.length (R.all gs') hsrc hc (by omega) (growslice_fits hc (by rw [hby]; exact hb))
    exact this
theorem run_zeros_room {w : World} (t tn ty e : TypeId) (info : TypeInfo) (z : Value) (kq kn : IntKind) (ht : P.underlying t = some (.slice e)) (htn : P.underlying tn = some (.int kn)) (hi : P.info? e = some info) (hz : info.zero = some z) (hzs : z.cells.size = info.size) (h1 : ∀ u ∈ z.cells.toList, u.oneCell' = true)
    (g sLen sCap k : Nat) (cur : Array Value) (hg : w.heap[g]? = some (.cells cur e (0, 0))) (hroom : sLen + k ≤ sCap) (hk : (k : Int) ≤ 9223372036854775807) (h48 : k * info.bytes ≤ 281474976710656) (hpos : 0 < info.size)
    (hfit : sLen * info.size + k * info.size ≤ cur.size) :
    (Builtin.append_ #[t, tn] ty #[.slice (some ⟨g, 0, none⟩) sLen sCap, .int kq k]).run P w = .ok (.slice (some ⟨g, 0, none⟩) (sLen + k) sCap) (w.setRow g (cur.toList.take (sLen * info.size) ++ (Builtin.zeroCells z.cells k).toList ++ cur.toList.drop (sLen * info.size + (Builtin.zeroCells z.cells k).toList.length)).toArray) := by
  have hw : IntKind.i64.wrap (k : Int) = k := by rw [IntKind.wrap_i64]; omega
  have h48i : ¬ (281474976710656 < (k : Int) * (info.bytes : Int)) := by rw [← Int.natCast_mul]; omega
  have hneg : ¬ ((k : Int) < 0) := by omega
  have hzl : (Builtin.zeroCells z.cells k).size = k * info.size := by rw [size_zeroCells, hzs]
  have hst := run_storeCells_at P g (sLen * info.size) e (Builtin.zeroCells z.cells k).toList 0 cur w hg (by rw [Array.length_toList, hzl]; simpa using hfit) (fun u hu => by
    simp only [Builtin.zeroCells, Array.toList_map, Array.toList_range, List.mem_map, List.mem_range] at hu
    obtain ⟨j, hj, rfl⟩ := hu
    have hb' : j % z.cells.size < z.cells.size := Nat.mod_lt _ (by omega)
    rw [getElem!_pos z.cells _ hb']
    exact h1 _ (by rw [← Array.getElem_toList]; exact List.getElem_mem _))
  simp only [Nat.add_zero] at hst
  by_cases h0 : k = 0
  · subst h0
    have e1 : (cur.toList.take (sLen * info.size) ++ (Builtin.zeroCells z.cells 0).toList ++ cur.toList.drop (sLen * info.size + (Builtin.zeroCells z.cells 0).toList.length)).toArray = cur := by
      simp [Builtin.zeroCells]
    rw [e1, setRow_self w g cur e (0, 0) hg]
    have hmc : sLen ≤ sCap := by omega
    have hw0 : IntKind.i64.wrap 0 = 0 := by rw [IntKind.wrap_i64]; omega
    simp [Builtin.append_, run_underlying ht, run_underlying htn, sizeOf, typeInfo, hi, asInt, asIntOf, hw0, hmc, storeCells]
  · have hns : ¬ (k * info.size = 0) := Nat.mul_ne_zero h0 (by omega)
    simp [Builtin.append_, run_underlying ht, run_underlying htn, sizeOf, typeInfo, zeroValue, hi, hz, asInt, asIntOf, hw, hneg, hns, h48i, hroom, Addr.add_lit, hst]
theorem appR_zeros {t tn ty e : TypeId} {bytes k : Nat} {kq kn : IntKind} {g0 : G} {z : Value} {info : TypeInfo} {w : World} (ht : P.underlying t = some (.slice e)) (htn : P.underlying tn = some (.int kn)) (hinf : P.info? e = some info) (hz : info.zero = some z) (hsz : info.size = R.sz) (hby : info.bytes = bytes) (hzc : z.cells.toList = flat (R.sg g0)) (hk : k * bytes ≤ 140737488355328) (hk63 : (k : Int) ≤ 9223372036854775807) :
    AppR P t tn ty e R.sz bytes (.int kq k) k (R.all (List.replicate k g0)) z w := by
  have hzs : z.cells.size = info.size := by rw [← Array.length_toList, hzc, Rep.flen, hsz]
  have hpos := R.pos
  have hz1 := zeroCells_all hzc k
  refine ⟨fun g m cap cur hg hroom hfit => ?_, fun h0 => ?_, fun base m cap olds hf hc hp h63 hb => ?_⟩
  · have := run_zeros_room (P := P) t tn ty e info z kq kn ht htn hinf hz hzs (fun u hu => by rw [hzc] at hu; exact oneB_mem (R.ok g0).2.2 u hu) g m cap k cur hg hroom hk63 (by rw [hby]; omega) (by omega) (by rw [Rep.len, List.length_replicate] at hfit; rw [hsz]; exact hfit)
    rw [hz1, hsz] at this; exact this
  · subst h0
    have hw0 : IntKind.i64.wrap 0 = 0 := by rw [IntKind.wrap_i64]; omega
    simp [Builtin.append_, run_underlying ht, run_underlying htn, sizeOf, typeInfo, hinf, asInt, asIntOf, hw0]
  · have := Lib.run_append_grow_zeros (P := P) w t tn ty e info z kq kn ht htn hinf hz base m cap olds (by rw [hsz]; exact hf) k hp (by omega) hc (by omega) (by rw [hby]; omega) (growslice_fits hc (by rw [hby]; exact hb))
    rw [this]
    congr 3
    apply Array.ext'
    simp [hz1]
theorem ZE.info {e : TypeId} {g0 : G} {sz bytes : Nat} (hz : ZE P e R g0) (hE : EL P e sz bytes) : ∃ info z, P.info? e = some info ∧ info.zero = some z ∧ info.size = R.sz ∧ info.bytes = bytes ∧ z.cells.toList = flat (R.sg g0) := by
  obtain ⟨info, z, hinf, hzi, hsz, hby, hzs, hpos⟩ := hE.h
  obtain ⟨zv, hzv, hzc⟩ := Option.map_eq_some_iff.1 hz.h
  have ezv : zv = z := by unfold zeroB at hzv; rw [hinf] at hzv; simp only [Option.bind_some] at hzv; rw [hzi] at hzv; exact (Option.some.inj hzv).symm
  subst ezv
  exact ⟨info, zv, hinf, hzi, by rw [← Rep.flen (R := R) g0, ← hzc, Array.length_toList, hzs, hsz], hby, hzc⟩
theorem row_append {t ty e : TypeId} {sz bytes m k c : Nat} {sv : Sv} {B : Option Addr} {gs' : List G} {g0 : G} {w : World} {i : Nat} (hi : L[i]? = some (rw_ e R sv m gs)) (hr : Rw w0 X L (.slice B k c) R gs') (ht : P.underlying t = some (.slice e)) (hz : ZE P e R g0) (hE : EL P e sz bytes) (hb : (m + k) * bytes ≤ 140737488355328) (h63 : m + k ≤ maxLen) (hw : St w0 X L w) :
    ∃ s' w', (Builtin.append_ #[t, t] ty #[sl sv m, .slice B k c]).run P w = .ok (sl s' (m + k)) w' ∧ St w0 X (rw_ e R s' (m + k) (gs ++ gs') :: L.eraseIdx i) w' := by
  obtain ⟨info, z, hinf, hzi, hsz, hby, hzc⟩ := hz.info hE
  exact row_app hi (hr.len hw) hzc (appR_slice (hr.get w hw) (hr.len hw) ht hinf hzi hsz hby) hb h63 hw
theorem gap {sx x : Operand} {t e : TypeId} {sz bytes m k c : Nat} {sv : Sv} {B : Option Addr} {gs' : List G} {g0 : G} {F : Assn → List Assn} (hs : eev E sx = some (.slice sv.A m sv.c)) (hx : eev E x = some (.slice B k c)) [hr : FRow L sv m e R gs] [hr' : Rw w0 X L (.slice B k c) R gs'] (ht : P.underlying t = some (.slice e)) [hE : EL P e sz bytes] [hz0 : ZE P e R g0] [hz : SzIs R sz] [hF : UpdF L (rw_ e R sv m gs) F]
    (hb : (m + k) * bytes ≤ 140737488355328 ∧ m + k ≤ 9223372036854775807) (hd : Nat.blt d n = true) (hD : ∀ s' : Sv, Dm w0 X ops s (F (rw_ e R s' (m + k) (gs ++ gs'))))
    (kk : ∀ s' : Sv, GO P n w0 X (nextM s) ops rest Q ((d, .slice s'.A (m + k) s'.c) :: E) (F (rw_ e R s' (m + k) (gs ++ gs')))) :
    GO P n w0 X s ops (⟨some d, .call { callee := .builtin .append, args := #[sx, x], argTypes := #[t, t] }, ty, pos, aft, none⟩ :: rest) Q E L := by
  refine go_hv (ρ := Sv) (φ := fun _ => True) rfl (fun w hw rest Q k' => ?_) (fun s' _ => hD s') (fun s' _ => kk s')
  obtain ⟨i, hi, hF0⟩ := hF.get
  obtain ⟨s', w', hrun, hst⟩ := row_append (ty := ty) hi hr' ht hz0 hE hb.1 (by simp only [maxLen]; omega) hw
  refine tl_run (fun a ha => by
    simp only [execOp, resolve, invoke, builtin, Sem.run_bind, Sem.run_pure, Result.andThen_ok, List.map_toArray, List.map_cons, List.map_nil, ha.ev hs, ha.ev hx, hrun]) hd (k' s' w' trivial ?_)
  rw [hF0]; exact hst.set (List.getElem?_eq_some_iff.1 hi).1
/-- so many zero elements more -/
theorem gapz {sx x : Operand} {t tn e : TypeId} {sz bytes m : Nat} {i : Int} {kq kn : IntKind} {sv : Sv} {g0 : G} {F : Assn → List Assn} (hs : eev E sx = some (.slice sv.A m sv.c)) (hx : eev E x = some (.int kq i)) [hr : FRow L sv m e R gs] (ht : P.underlying t = some (.slice e)) (htn : P.underlying tn = some (.int kn)) [hE : EL P e sz bytes] [hz0 : ZE P e R g0] [hz : SzIs R sz] [hF : UpdF L (rw_ e R sv m gs) F]
    (hb : 0 ≤ i ∧ (m + i.toNat) * bytes ≤ 140737488355328 ∧ i.toNat * bytes ≤ 140737488355328 ∧ m + i.toNat ≤ 9223372036854775807) (hd : Nat.blt d n = true) (hD : ∀ s' : Sv, Dm w0 X ops s (F (rw_ e R s' (m + i.toNat) (gs ++ List.replicate i.toNat g0))))
    (kk : ∀ s' : Sv, GO P n w0 X (nextM s) ops rest Q ((d, .slice s'.A (m + i.toNat) s'.c) :: E) (F (rw_ e R s' (m + i.toNat) (gs ++ List.replicate i.toNat g0)))) :
    GO P n w0 X s ops (⟨some d, .call { callee := .builtin .append, args := #[sx, x], argTypes := #[t, tn] }, ty, pos, aft, none⟩ :: rest) Q E L := by
  refine go_hv (ρ := Sv) (φ := fun _ => True) rfl (fun w hw rest Q k' => ?_) (fun s' _ => hD s') (fun s' _ => kk s')
  obtain ⟨j, hi, hF0⟩ := hF.get
  obtain ⟨info, z, hinf, hzi, hsz, hby, hzc⟩ := hz0.info hE
  have ei : (i.toNat : Int) = i := by omega
  obtain ⟨s', w', hrun, hst⟩ := row_app (ty := ty) hi (by simp) hzc (appR_zeros (kq := kq) (k := i.toNat) ht htn hinf hzi hsz hby hzc hb.2.2.1 (by omega)) hb.2.1 (by simp only [maxLen]; omega) hw
  rw [ei] at hrun
  refine tl_run (fun a ha => by
    simp only [execOp, resolve, invoke, builtin, Sem.run_bind, Sem.run_pure, Result.andThen_ok, List.map_toArray, List.map_cons, List.map_nil, ha.ev hs, ha.ev hx, hrun]) hd (k' s' w' trivial ?_)
  rw [hF0]; exact hst.set (List.getElem?_eq_some_iff.1 hi).1
theorem nil_row {w : World} (hw : St w0 X L w) (e : TypeId) (R : Rep G) : St w0 X (rw_ e R ⟨none, 0⟩ 0 [] :: L) w :=
  hw.grow rfl rfl rfl (Nat.le_refl _) (fun _ _ => rfl) ⟨hemp, ⟨rfl, .inl ⟨rfl, rfl⟩⟩, fun _ _ h => by simp [hemp] at h, fun b h => absurd rfl h⟩
/-- onto nil -/
theorem gan {sx x : Operand} {t e : TypeId} {sz bytes k c : Nat} {B : Option Addr} {gs' : List G} {g0 : G} (hs : eev E sx = some (.slice none 0 0)) (hx : eev E x = some (.slice B k c)) [hr' : Rw w0 X L (.slice B k c) R gs'] (ht : P.underlying t = some (.slice e)) [hE : EL P e sz bytes] [hz0 : ZE P e R g0] [hz : SzIs R sz]
    (hb : k * bytes ≤ 140737488355328 ∧ k ≤ 9223372036854775807) (hd : Nat.blt d n = true) (hD : ∀ s' : Sv, Dm w0 X ops s (rw_ e R s' k gs' :: L))
    (kk : ∀ s' : Sv, GO P n w0 X (nextM s) ops rest Q ((d, .slice s'.A k s'.c) :: E) (rw_ e R s' k gs' :: L)) :
    GO P n w0 X s ops (⟨some d, .call { callee := .builtin .append, args := #[sx, x], argTypes := #[t, t] }, ty, pos, aft, none⟩ :: rest) Q E L := by
  refine go_hv (ρ := Sv) (φ := fun _ => True) rfl (fun w hw rest Q k' => ?_) (fun s' _ => hD s') (fun s' _ => kk s')
  have hr2 : Rw w0 X (rw_ e R ⟨none, 0⟩ 0 [] :: L) (.slice B k c) R gs' := ⟨fun w hw => hr'.get w hw.tail⟩
  obtain ⟨s', w', hrun, hst⟩ := row_append (ty := ty) (i := 0) (sv := ⟨none, 0⟩) (m := 0) (gs := []) rfl hr2 ht hz0 hE (by rw [Nat.zero_add]; exact hb.1) (by simp only [maxLen]; omega) (nil_row hw e R)
  have hrun' : (Builtin.append_ #[t, t] ty #[.slice none 0 0, .slice B k c]).run P w = .ok (.slice s'.A k s'.c) w' := by simpa only [sl, Nat.zero_add] using hrun
  refine tl_run (fun a ha => by
    simp only [execOp, resolve, invoke, builtin, Sem.run_bind, Sem.run_pure, Result.andThen_ok, List.map_toArray, List.map_cons, List.map_nil, ha.ev hs, ha.ev hx, hrun']) hd (k' s' w' trivial ?_)
  simpa using hst
/-- made: so many zero elements -/
theorem gm {l c : Operand} {t e : TypeId} {sz bytes m : Nat} {kl kc : IntKind} {cap : Int} {g0 : G} (hl : eev E l = some (.int kl (.ofNat m))) (hc : eev E c = some (.int kc cap)) (ht : P.underlying t = some (.slice e)) [hz : ZE P e R g0] [hE : EL P e sz bytes] [hs : SzIs R sz]
    (hb : (m : Int) ≤ cap ∧ (bytes : Int) * cap ≤ 281474976710656 ∧ cap ≤ 9223372036854775807) (hd : Nat.blt d n = true) (hD : ∀ s' : Sv, Dm w0 X ops s (rw_ e R s' m (List.replicate m g0) :: L))
    (kk : ∀ s' : Sv, GO P n w0 X (nextM s) ops rest Q ((d, .slice s'.A m s'.c) :: E) (rw_ e R s' m (List.replicate m g0) :: L)) :
    GO P n w0 X s ops (⟨some d, .makeSlice t l c, ty, pos, aft, none⟩ :: rest) Q E L := by
  refine go_hv (ρ := Sv) (φ := fun _ => True) rfl (fun w hw rest Q k' => ?_) (fun s' _ => hD s') (fun s' _ => kk s')
  obtain ⟨info, z, hinf, hzi, hsz, hby, hzc⟩ := hz.info hE
  have hr := run_make (P := P) w t e info z ht hinf hzi kl kc m cap (by omega) hb.1 (by rw [hby]; exact hb.2.1) hb.2.2
  rw [hsz] at hr
  refine tl_run (fun a ha => by simp only [execOp, ha.ev hl, ha.ev hc, Sem.run_bind, Sem.run_pure]; exact congrArg (fun r => Result.andThen r _) hr) hd (k' ⟨some ⟨w.heap.size, 0, none⟩, cap.toNat⟩ _ trivial ?_)
  have hzs : z.cells.size = R.sz := by rw [← Array.length_toList, hzc, Rep.flen]
  have e1 : (R.all (List.replicate m g0 ++ List.replicate (cap.toNat - m) g0)).toArray = madeCells z.cells (cap.toNat * R.sz) := by
    rw [List.replicate_append_replicate, Nat.add_sub_cancel' (by omega)]
    apply Array.ext'
    have := zeroCells_all hzc cap.toNat
    rw [← hzs]
    exact this.symm
  refine hw.grow rfl rfl rfl (by simp) (fun b hb => Below.heap_alloc w _ b hb) ⟨hone w.heap.size _, ⟨by simp, .inr ⟨w.heap.size, List.replicate (cap.toNat - m) g0, by simp; omega, by simp only [List.length_replicate, maxLen]; omega, rfl⟩⟩, ?_, fun b hb => by rw [hone_ne hb]; exact Nat.le_refl _⟩
  rw [e1]; exact Sub.of_one (heap_alloc_new w _)
/-- empty, with room -/
theorem gm0 {l c : Operand} {t e : TypeId} {sz bytes : Nat} {kl kc : IntKind} {cap : Int} {g0 : G} (hl : eev E l = some (.int kl 0)) (hc : eev E c = some (.int kc cap)) (ht : P.underlying t = some (.slice e)) [hz : ZE P e R g0] [hE : EL P e sz bytes] [hs : SzIs R sz]
    (hb : 0 ≤ cap ∧ (bytes : Int) * cap ≤ 281474976710656 ∧ cap ≤ 9223372036854775807) (hd : Nat.blt d n = true) (hD : ∀ s' : Sv, Dm w0 X ops s (rw_ e R s' 0 [] :: L))
    (kk : ∀ s' : Sv, GO P n w0 X (nextM s) ops rest Q ((d, .slice s'.A 0 s'.c) :: E) (rw_ e R s' 0 [] :: L)) :
    GO P n w0 X s ops (⟨some d, .makeSlice t l c, ty, pos, aft, none⟩ :: rest) Q E L := gm (m := 0) hl hc ht hb hd hD kk
/-- a value as an element -/
class Elm (R : Rep G) (v : Value) (g : outParam G) : Prop where
  h : flat (R.sg g) = v.cells.toList
class Elms (R : Rep G) (i : Nat) (ps : List (Nat × Value)) (gs : outParam (List G)) : Prop where
  h : ps.map (·.1) = (List.range' i gs.length) ∧ ∀ (j : Nat) (p : Nat × Value) (g : G), ps[j]? = some p → gs[j]? = some g → flat (R.sg g) = p.2.cells.toList
instance Elms.nil {i : Nat} : Elms R i [] [] := ⟨rfl, fun i p q h => by simp at h⟩
instance Elms.cons {i : Nat} {v : Value} {g : G} {r : List (Nat × Value)} [h : Elm R v g] [h' : Elms R (i + 1) r gs] : Elms R i ((i, v) :: r) (g :: gs) := ⟨by simp [h'.h.1, List.range'_succ], fun j p q hp hq => by
  cases j with
  | zero => simp at hp hq; subst hp hq; exact h.h
  | succ j => exact h'.h.2 j p q (by simpa using hp) (by simpa using hq)⟩
theorem fill_elms : ∀ {ps : List (Nat × Value)} {gs : List G} {i : Nat} {cs : List Value}, ps.map (·.1) = List.range' i gs.length → (∀ (j : Nat) (p : Nat × Value) (g : G), ps[j]? = some p → gs[j]? = some g → flat (R.sg g) = p.2.cells.toList) → cs.length = (i + gs.length) * R.sz →
    FillP (fun i => some (i * R.sz, R.sz)) cs ps (cs.take (i * R.sz) ++ R.all gs)
  | [], gs, i, cs, hi, _, hl => by
    cases gs with
    | nil => simp only [FillP, Rep.all_nil, List.append_nil]; rw [List.take_of_length_le (by rw [hl]; simp)]
    | cons g gs => simp [List.range'_succ] at hi
  | (j, v) :: ps, gs, i, cs, hi, hall, hl => by
    cases gs with
    | nil => simp at hi
    | cons g gs =>
      simp only [List.map_cons, List.length_cons, List.range'_succ, List.cons.injEq] at hi
      obtain ⟨rfl, hi⟩ := hi
      have h0 := hall 0 _ _ rfl rfl
      simp only at h0
      have hv : v.cells.toList.length = R.sz := by rw [← h0, Rep.flen]
      simp only [List.length_cons] at hl
      have hl2 : cs.length = (j + 1 + gs.length) * R.sz := by rw [hl]; congr 1; omega
      have hle : j * R.sz + R.sz ≤ cs.length := by
        rw [hl2]
        have := Nat.mul_le_mul_right R.sz (show j + 1 ≤ j + 1 + gs.length by omega)
        rwa [Nat.add_mul, Nat.one_mul] at this
      refine ⟨j * R.sz, R.sz, rfl, hv, hle, ?_⟩
      have ih := fill_elms (ps := ps) (gs := gs) (i := j + 1) (cs := splice cs (j * R.sz) v.cells.toList) hi (fun q p g hp hq => hall (q + 1) p g (by simpa using hp) (by simpa using hq)) (by rw [splice_len (by omega)]; exact hl2)
      have e : (splice cs (j * R.sz) v.cells.toList).take ((j + 1) * R.sz) ++ R.all gs = cs.take (j * R.sz) ++ R.all (g :: gs) := by
        have h1 : (splice cs (j * R.sz) v.cells.toList).take ((j + 1) * R.sz) = cs.take (j * R.sz) ++ v.cells.toList := by
          unfold splice
          rw [List.take_append_of_le_length (by simp only [List.length_append, List.length_take]; rw [Nat.add_mul]; omega)]
          exact List.take_of_length_le (by simp only [List.length_append, List.length_take]; rw [Nat.add_mul]; omega)
        rw [h1, ← h0]; simp [Rep.all]
      rw [e] at ih; exact ih
theorem gbs {t e : TypeId} {len sz bytes : Nat} {parts : List (Nat × Operand)} {ps : List (Nat × Value)} (R : Rep G) {gs : List G} (ht : P.underlying t = some (.slice e)) [hE : EL P e sz bytes] [hs : SzIs R sz] (hp : evps E parts = some ps) [hq : Elms R 0 ps gs] (hn : gs.length = len) (hlen : Nat.ble (len * sz) 1000000 = true) (hpos : Nat.beq len 0 = false) (hd : Nat.blt d n = true)
    (hD : ∀ s' : Sv, Dm w0 X ops s (rw_ e R s' len gs :: L)) (kk : ∀ s' : Sv, GO P n w0 X (nextM s) ops rest Q ((d, .slice s'.A len s'.c) :: E) (rw_ e R s' len gs :: L)) :
    GO P n w0 X s ops (⟨some d, .buildSlice t len parts.toArray, ty, pos, aft, none⟩ :: rest) Q E L := by
  refine go_hv (ρ := Sv) (φ := fun _ => True) rfl (fun w hw rest Q k' => ?_) (fun s' _ => hD s') (fun s' _ => kk s')
  obtain ⟨info, z, hinf, hzi, hsz, hby, hzs, hpos'⟩ := hE.h
  have hsR := hs.h
  subst hsR
  have hle := bleT hlen
  have h0 : len ≠ 0 := fun e0 => by subst e0; simp [Nat.beq] at hpos
  have hge : len ≤ len * R.sz := Nat.le_mul_of_pos_right _ R.pos
  have h0' : len * R.sz ≠ 0 := by omega
  have hf := fill_elms (R := R) (ps := ps) (gs := gs) (i := 0) (cs := (List.range (len * R.sz)).map (fun j => z.cells[j % z.cells.size]!)) (by rw [hq.h.1]) hq.h.2 (by simp [hn])
  simp only [Nat.zero_mul, List.take_zero, List.nil_append] at hf
  have h2 := fill_of hf
  have hsB : (sizeOf e).run P w = .ok R.sz w := by simp [sizeOf, typeInfo, hinf, hsz]
  have hzB : (zeroValue e).run P w = .ok z w := by simp [zeroValue, typeInfo, hinf, hzi]
  refine tl_run (w' := w.alloc (.cells (R.all gs).toArray e)) (fun a ha => ?_) hd (k' ⟨some ⟨w.heap.size, 0, none⟩, len⟩ _ trivial ?_)
  · have hm : List.map (fun x : Nat × Operand => (x.1, a.eval x.2)) parts = ps := evps_map ha hp
    have hr : (Array.range (len * R.sz)).map (fun j => z.cells[j % z.cells.size]!) = ((List.range (len * R.sz)).map (fun j => z.cells[j % z.cells.size]!)).toArray := by
      apply Array.ext'; simp
    rw [← hr] at h2
    have hlt : ¬ (16777216 < len * R.sz) := by omega
    simp only [execOp, Instr.buildSlice, Sem.run_bind, run_underlying ht, Result.andThen_ok, hsB]
    simp [hlt, hzB, hm, h2, newRow]
    exact fun e => absurd e h0'
  · refine hw.grow rfl rfl rfl (by simp) (fun b hb => Below.heap_alloc w _ b hb) ⟨hone w.heap.size _, ⟨hn, .inr ⟨w.heap.size, [], rfl, by simp only [List.length_nil, maxLen]; omega, rfl⟩⟩, ?_, fun b hb => by rw [hone_ne hb]; exact Nat.le_refl _⟩
    rw [List.append_nil]; exact Sub.of_one (heap_alloc_new w _)
end
/-! calls -/
structure Pre (p : Prop) : Prop where
  h : p
/-- what a call of f with vs answers where L is known: L': what is known behind it -/
class Ctr (P : Program) (f : FuncId) (vs : List Value) (w0 : World) (X : Nat → Prop) (L : List Assn) (pre : outParam Prop) {ρ : outParam Type} (val : outParam (ρ → Value)) (L' : outParam (ρ → List Assn)) (φ : outParam (ρ → Prop)) : Prop where
  ok : callB P f = true
  go : pre → ∀ w, St w0 X L w → Calls P f vs.toArray w fun e w' => ∃ r, e = .returned (val r) ∧ St w0 X (L' r) w' ∧ φ r
theorem ctr {P : Program} {f : FuncId} {vs : List Value} {w0 : World} {X : Nat → Prop} {L : List Assn} {pre : Prop} {ρ : Type} {val : ρ → Value} {M : ρ → List Assn} {φ : ρ → Prop} (ok : callB P f = true) (h : pre → ∀ w, St w0 X L w → Ct P f vs w no val M φ) : Ctr P f vs w0 X L pre val (fun r => M r ++ L) φ :=
  ⟨ok, fun hp w hw => (h hp w hw).mono fun e w' ⟨r, he, hs, hφ⟩ => ⟨r, he, hw.call hs, hφ⟩⟩
section
variable {P : Program} {n : Nat} {w0 : World} {X : Nat → Prop} {Q : Cont} {E : Env} {L L' : List Assn} {s : Ms} {ops : Array Oper} {rest : List Oper} {v : Value}
variable {d : Nat} {ty : TypeId} {pos : String} {aft : Array Edge} {ats : Array TypeId} {xs : List Operand} {pre : Prop} {ρ : Type} {val : ρ → Value} {M : ρ → List Assn} {φ : ρ → Prop} {f : FuncId}
theorem gca' {fo : Operand} {vs first cap : List Value} (hf : eev E fo = some (.func (.func f) first.toArray cap.toArray)) (hx : evs E xs = some vs) [h : Ctr P f (first ++ vs ++ cap) w0 X L pre val M φ] (hp : Pre pre) (hd : Nat.blt d n = true) (hD : ∀ r, φ r → Dm w0 X ops s (M r))
    (k : ∀ r, φ r → GO P n w0 X (nextM s) ops rest Q ((d, val r) :: E) (M r)) : GO P n w0 X s ops (⟨some d, .call { callee := .value fo, args := xs.toArray, argTypes := ats }, ty, pos, aft, none⟩ :: rest) Q E L := by
  refine go_hv rfl (fun w hw rest Q k' => ?_) hD k
  refine tl_eff rfl fun K hK a ha => ?_
  unfold Oper.wp
  have hr : (execOp a.eval ⟨some d, .call { callee := .value fo, args := xs.toArray, argTypes := ats }, ty, pos, aft, none⟩).run P w = .ok (.enter f (first ++ vs ++ cap).toArray) w := by
    have hm : xs.map a.eval = vs := evs_map ha hx
    simp only [execOp, resolve, Deferred.ofValue, ha.ev hf, invoke, Sem.run_bind, Sem.run_pure, Result.andThen_ok, List.map_toArray, hm]
    simp [run_callFunc h.ok]
  rw [hr]
  exact (h.go hp.h w hw).mono fun e w' ⟨r, he, hs, hφ⟩ => by
    subst he
    exact hK _ _ ((k' r w' hφ hs).go _ (ha.put hd _))
theorem gcall {vs : List Value} (hx : evs E xs = some vs) [h : Ctr P f vs w0 X L pre val M φ] (hp : Pre pre) (hd : Nat.blt d n = true) (hD : ∀ r, φ r → Dm w0 X ops s (M r))
    (k : ∀ r, φ r → GO P n w0 X (nextM s) ops rest Q ((d, val r) :: E) (M r)) : GO P n w0 X s ops (⟨some d, .call { callee := .value (.func f), args := xs.toArray, argTypes := ats }, ty, pos, aft, none⟩ :: rest) Q E L := by
  have h' : Ctr P f ([] ++ vs ++ []) w0 X L pre val M φ := by simpa using h
  exact gca' (first := []) (cap := []) rfl hx hp hd hD k
theorem gcv {fo : Operand} {vs : List Value} (hf : eev E fo = some (.func (.func f) #[] #[])) (hx : evs E xs = some vs) [h : Ctr P f vs w0 X L pre val M φ] (hp : Pre pre) (hd : Nat.blt d n = true) (hD : ∀ r, φ r → Dm w0 X ops s (M r))
    (k : ∀ r, φ r → GO P n w0 X (nextM s) ops rest Q ((d, val r) :: E) (M r)) : GO P n w0 X s ops (⟨some d, .call { callee := .value fo, args := xs.toArray, argTypes := ats }, ty, pos, aft, none⟩ :: rest) Q E L := by
  have h' : Ctr P f ([] ++ vs ++ []) w0 X L pre val M φ := by simpa using h
  exact gca' (first := []) (cap := []) hf hx hp hd hD k
end
end Go.Proofs.YtkjpemkankefnaaDoor
