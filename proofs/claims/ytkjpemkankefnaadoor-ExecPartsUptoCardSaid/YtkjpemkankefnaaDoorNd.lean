/-
  THE SECOND ENGINE, fourth part: memory, calls. No program in sight.
-/
import Derived.Test.YtkjpemkankefnaaDoorNc
set_option linter.unusedVariables false
namespace Go.Proofs.YtkjpemkankefnaaDoor
open Go.RowKit

/-! facts as classes -/
class Ix (i : Int) (n : Nat) : Prop where
  h : 0 ≤ i ∧ i < n
/-- a cut: from l on, k of m, with the capacities before (c), c2, and behind (c') -/
class Cu (l : Int) (k m c c2 c' : Nat) : Prop where
  h : 0 ≤ l ∧ l.toNat + k ≤ m ∧ l.toNat + k ≤ c2 ∧ k ≤ c' ∧ c' ≤ c
class SzIs {G : Type} (R : Rep G) (sz : Nat) : Prop where
  h : R.sz = sz
class LenIs {G : Type} (gs : List G) (m : Nat) : Prop where
  h : gs.length = m
class NLe (a b : Nat) : Prop where
  h : a ≤ b
instance NLe.zero {b : Nat} : NLe 0 b := ⟨Nat.zero_le _⟩
instance (priority := low) NLe.one {a b : Nat} [h : NLe a b] : NLe (a + 1) (b + 1) := ⟨Nat.succ_le_succ h.h⟩
instance NLe.big {a b : Nat} [h : NLe a b] : NLe (a + 16) (b + 16) := ⟨Nat.add_le_add_right h.h 16⟩
/-- what a number's kind tells -/
class Rng (v : Value) (p : outParam Prop) : Prop where
  is : p
instance Rng.byte {x : UInt8} : Rng (.int .u8 (x.toNat : Int)) (0 ≤ (x.toNat : Int) ∧ (x.toNat : Int) ≤ 255) := ⟨by have := x.toNat_lt; omega⟩
instance (priority := low) Rng.any {v : Value} : Rng v True := ⟨trivial⟩
/-- cells that are one each -/
class OneV (v : Value) : Prop where
  h : v.oneCell' = true
instance {k : IntKind} {i : Int} : OneV (.int k i) := ⟨rfl⟩
instance {b : Bool} : OneV (.bool b) := ⟨rfl⟩
instance {A : Option Addr} {n c : Nat} : OneV (.slice A n c) := ⟨rfl⟩
instance {p : Option Addr} : OneV (.pointer p) := ⟨rfl⟩
instance {r : Option Nat} : OneV (.map r) := ⟨rfl⟩
instance {f : Fn} {a b : Array Value} : OneV (.func f a b) := ⟨rfl⟩
class OkS (s : List Cs) : Prop where
  h : okS s ∧ oneB (flat s) = true
theorem oneB_append {a b : List Value} (h : oneB a = true) (h' : oneB b = true) : oneB (a ++ b) = true := by
  simp only [oneB, List.all_append, Bool.and_eq_true] at *; exact ⟨h, h'⟩
instance OkS.nil : OkS [] := ⟨trivial, rfl⟩
instance OkS.one {v : Value} {r : List Cs} [h : OneV v] [h' : OkS r] : OkS (.one v :: r) := ⟨h'.h.1, oneB_append (by simp [oneB, Cs.cells, h.h]) h'.h.2⟩
theorem Rep.oneAll {G : Type} {R : Rep G} (gs : List G) : oneB (R.all gs) = true := by
  simp only [oneB, List.all_eq_true]; exact fun u hu => Rep.one gs u hu
instance OkS.blk {G : Type} {R : Rep G} {gs : List G} {m : Nat} {r : List Cs} [h : LenIs gs m] [hs : SzIs R 1] [h' : OkS r] : OkS (.blk m (R.all gs) :: r) := ⟨⟨by rw [Rep.len, h.h, hs.h, Nat.mul_one], h'.h.1⟩, oneB_append (Rep.oneAll gs) h'.h.2⟩
/-- a value's segments -/
class Sg (v : Value) (s : outParam (List Cs)) : Prop where
  h : v.cells.toList = flat s ∧ okS s ∧ oneB (flat s) = true
instance Sg.ag {s : List Cs} [h : OkS s] : Sg (.agg (flat s).toArray) s := ⟨cells_Ag s, h.h⟩
instance (priority := low) Sg.one {v : Value} [h : OneV v] : Sg v [.one v] := ⟨(by have := h.h; cases v <;> first | rfl | cases this), trivial, by simp [oneB, flat, Cs.cells, h.h]⟩
/-- the zero value's segments -/
class ZS (P : Program) (t : TypeId) (s : outParam (List Cs)) : Prop where
  h : (zeroB P t).map (fun z => z.cells.toList) = some (flat s)
  ok : okS s
/-- the zero value as an element -/
class ZE (P : Program) (e : TypeId) {G : outParam Type} (R : outParam (Rep G)) (g : outParam G) : Prop where
  h : (zeroB P e).map (fun z => z.cells.toList) = some (flat (R.sg g))
  sz : szB P e = some R.sz
/-- an element type -/
class EL (P : Program) (e : TypeId) (sz bytes : outParam Nat) : Prop where
  h : ElemT P e sz bytes
/-- A's place in L -/
class UpdF (L : List Assn) (A : Assn) (F : outParam (Assn → List Assn)) : Prop where
  get : ∃ i, L[i]? = some A ∧ ∀ A', F A' = L.set i A'
section
variable {L : List Assn} {A B : Assn}
instance UpdF.hd : UpdF (A :: L) A (fun A' => A' :: L) := ⟨0, rfl, fun _ => rfl⟩
instance UpdF.tl {F : Assn → List Assn} [h : UpdF L A F] : UpdF (B :: L) A (fun A' => B :: F A') := by
  obtain ⟨i, h1, h2⟩ := h.get
  exact ⟨i + 1, by simpa using h1, fun A' => by rw [h2]; rfl⟩
end
theorem UpdF.st {w0 w : World} {X : Nat → Prop} {L : List Assn} {A A' : Assn} {F : Assn → List Assn} (h : UpdF L A F) (hs : ∀ i, L[i]? = some A → St w0 X (A' :: L.eraseIdx i) w) : St w0 X (F A') w := by
  obtain ⟨i, h1, h2⟩ := h.get
  rw [h2]
  exact (hs i h1).set (List.getElem?_eq_some_iff.1 h1).1

/-! addresses of elements -/
@[irreducible] def el (A : Option Addr) (n c sz : Nat) (i : Int) : Addr := (A.getD default).add (i.toNat * sz)
theorem el_eq (b o n c sz : Nat) (i : Int) : el (some ⟨b, o, none⟩) n c sz i = ⟨b, o + i.toNat * sz, none⟩ := by unfold el; simp [Addr.add_lit]
@[irreducible] def ela (g o m sz : Nat) (i : Int) : Addr := ⟨g, o + i.toNat * sz, none⟩
theorem ela_eq (g o m sz : Nat) (i : Int) : ela g o m sz i = ⟨g, o + i.toNat * sz, none⟩ := by unfold ela; rfl
@[irreducible] def cutA (A : Option Addr) (n c c2 sz : Nat) (l : Int) : Option Addr := if c2 = l.toNat then A else A.map (·.add (l.toNat * sz))
class PtrN (p : Addr) (A : outParam (Option Addr)) (n c sz : outParam Nat) (i : outParam Int) (off : outParam Nat) : Prop where
  h : p = (el A n c sz i).add off
instance PtrN.el {A : Option Addr} {n c sz : Nat} {i : Int} : PtrN (el A n c sz i) A n c sz i 0 := ⟨by simp [Addr.add_zero']⟩
theorem add_add (p : Addr) (a b : Nat) : (p.add a).add b = p.add (a + b) := by
  unfold Addr.add; split <;> split <;> simp_all <;> first | omega | (split <;> first | omega | (simp; omega))
instance PtrN.add {p : Addr} {A : Option Addr} {n c sz o off : Nat} {i : Int} [h : PtrN p A n c sz i off] : PtrN (p.add o) A n c sz i (off + o) := ⟨by rw [h.h, add_add]⟩
def ixd {G : Type} [Inhabited G] (gs : List G) (i : Int) : G := gs.getD i.toNat default
theorem ixd_eq {G : Type} [Inhabited G] {gs : List G} {i : Int} (h : i.toNat < gs.length) : ixd gs i = gs[i.toNat] := by simp [ixd, h]

section
variable {P : Program} {n : Nat} {w0 : World} {X : Nat → Prop} {Q : Cont} {E : Env} {L L' : List Assn} {s : Ms} {ops : Array Oper} {rest : List Oper} {v : Value}
variable {d : Nat} {ty : TypeId} {pos : String} {aft : Array Edge} {op : Op} {G : Type} {R : Rep G} {gs : List G}
/-! looks -/
theorem box_cells {w : World} {g : Nat} {t : TypeId} {cs : List Cs} (h : FBox L g t cs) (hw : St w0 X L w) : okS cs ∧ ∀ j, w.cell? ⟨g, j, none⟩ = (flat cs)[j]? := by
  obtain ⟨k, ⟨ok, rfl⟩, hs⟩ := hw.getM h.get
  refine ⟨ok, fun j => ?_⟩
  rw [cell_of_row w g j _ t (0, 0) hs.one]; simp
theorem lvb {g o : Nat} {t tt : TypeId} {cs : List Cs} {u : Value} [h : FBox L g tt cs] (ha : aggB P t = some false) (hu : at1 cs o = some u) : Lv P w0 X L t ⟨g, o, none⟩ u := fun w hw => by
  obtain ⟨ok, hc⟩ := box_cells h hw
  exact run_loadVar_one ha ((hc o).trans (at1_ok ok hu))
theorem lvB {g o m : Nat} {t tt : TypeId} {cs s' : List Cs} [h : FBox L g tt cs] (ha : aggB P t = some true) (hz : szB P t = some m) (hu : subS cs o m = some s') : Lv P w0 X L t ⟨g, o, none⟩ (Ag s') := fun w hw => by
  obtain ⟨ok, hc⟩ := box_cells h hw
  obtain ⟨e1, e2, e3⟩ := subS_ok ok hu
  refine run_loadVar_agg ha (by rw [flat_len e2, e3]; exact hz) fun j u hj => ?_
  rw [Addr.add_lit, hc]
  have hjl : j < m := by rw [← e3, ← flat_len e2]; exact (List.getElem?_eq_some_iff.1 hj).1
  rw [← e1, List.getElem?_take_of_lt hjl, List.getElem?_drop] at hj
  exact hj
theorem elem_cell {A : Option Addr} {m c sz : Nat} {i : Int} [Inhabited G] {w : World} (hR : Rw w0 X L (.slice A m c) R gs) (hs : R.sz = sz) (hI : Ix i m) (hw : St w0 X L w) :
    ∃ b o, el A m c sz i = ⟨b, o, none⟩ ∧ ∀ j u, (flat (R.sg (ixd gs i)))[j]? = some u → w.cell? ⟨b, o + j, none⟩ = some u := by
  subst hs
  have hl := hR.len hw
  obtain ⟨A', c', e, h1, h2, h3, hr⟩ := hR.get w hw
  cases e
  have hi : i.toNat < gs.length := by have := hI.h; omega
  have h0 : 0 < (R.all gs).length := by
    rw [Rep.len]; exact Nat.mul_pos (by omega) R.pos
  obtain ⟨b, o, rfl, hc⟩ := hr h0
  refine ⟨b, _, el_eq b o _ _ _ i, fun j u hj => ?_⟩
  rw [ixd_eq hi] at hj
  rw [Nat.add_assoc]
  exact hc _ u (Rep.at_ hi hj)
theorem lve {p : Addr} {A : Option Addr} {m c sz off : Nat} {i : Int} {t : TypeId} {u : Value} [Inhabited G] [hp : PtrN p A m c sz i off] [hR : Rw w0 X L (.slice A m c) R gs] [hs : SzIs R sz] [hI : Ix i m] (ha : aggB P t = some false) (hu : at1 (R.sg (ixd gs i)) off = some u) : Lv P w0 X L t p u := fun w hw => by
  obtain ⟨b, o, e, hc⟩ := elem_cell hR hs.h hI hw
  rw [hp.h, e, Addr.add_lit]
  exact run_loadVar_one ha (hc _ _ (at1_ok (R.ok _).1 hu))
theorem lvE {p : Addr} {A : Option Addr} {m c sz off k : Nat} {i : Int} {t : TypeId} {s' : List Cs} [Inhabited G] [hp : PtrN p A m c sz i off] [hR : Rw w0 X L (.slice A m c) R gs] [hs : SzIs R sz] [hI : Ix i m] (ha : aggB P t = some true) (hz : szB P t = some k) (hu : subS (R.sg (ixd gs i)) off k = some s') : Lv P w0 X L t p (Ag s') := fun w hw => by
  obtain ⟨b, o, e, hc⟩ := elem_cell hR hs.h hI hw
  rw [hp.h, e, Addr.add_lit]
  obtain ⟨e1, e2, e3⟩ := subS_ok (R.ok _).1 hu
  refine run_loadVar_agg ha (by rw [flat_len e2, e3]; exact hz) fun j u hj => ?_
  rw [Addr.add_lit, Nat.add_assoc]
  refine hc _ _ ?_
  have hjl : j < k := by rw [← e3, ← flat_len e2]; exact (List.getElem?_eq_some_iff.1 hj).1
  rw [← e1, List.getElem?_take_of_lt hjl, List.getElem?_drop] at hj
  exact hj
/-- an array's element, in a block of the call's own -/
theorem lva {g o m sz : Nat} {i : Int} {t tt : TypeId} {cs : List Cs} {u : Value} [Inhabited G] [h : FBox L g tt cs] [hI : Ix i m] (hq : subS cs o m = some [.blk m (R.all gs)]) (hs : R.sz = 1) (hz : sz = 1) (ha : aggB P t = some false) (hu : at1 (R.sg (ixd gs i)) 0 = some u) : Lv P w0 X L t (ela g o m sz i) u := fun w hw => by
  subst hz
  obtain ⟨ok, hc⟩ := box_cells h hw
  obtain ⟨e1, e2, e3⟩ := subS_ok ok hq
  have hl : gs.length = m := by have := e2.1; rw [Rep.len, hs, Nat.mul_one] at this; exact this
  have hi : i.toNat < gs.length := by have := hI.h; omega
  rw [ela_eq]
  refine run_loadVar_one ha ((hc _).trans ?_)
  have h1 := at1_ok (R.ok _).1 hu
  rw [ixd_eq hi] at h1
  have h2 := Rep.at_ hi h1
  rw [hs, Nat.mul_one, Nat.add_zero] at h2
  rw [Nat.mul_one, ← List.getElem?_drop]
  have h3 : i.toNat < m := by omega
  rw [← List.getElem?_take_of_lt h3, e1]
  simpa [flat, Cs.cells] using h2
theorem gl {x : Operand} {t : TypeId} {p : Addr} {u : Value} {q : Prop} (hx : eev E x = some (.pointer (some p))) (hl : Lv P w0 X L t p u) [hq : Rng u q] (hd : Nat.blt d n = true)
    (k : q → GO P n w0 X (loadM (fun w => (loadVar t p).run P w = .ok u w) s) ops rest Q ((d, u) :: E) L) : GO P n w0 X s ops (⟨some d, .load t x, ty, pos, aft, none⟩ :: rest) Q E L :=
  go_look (fun w => (loadVar t p).run P w = .ok u w) rfl hl (fun w hw => ⟨fun a ha => by simp [execOp, ha.ev hx, Instr.loadAt, Instr.sureAddr, hw]⟩) hd (k hq.is)
/-! addresses -/
theorem gf {x : Operand} {t i off : Nat} {p : Addr} (hx : eev E x = some (.pointer (some p))) (hf : fldB P t i = some off) (hd : Nat.blt d n = true) (k : GO P n w0 X (nextM s) ops rest Q ((d, .pointer (some (p.add off))) :: E) L) : GO P n w0 X s ops (⟨some d, .fieldAddr t x i, ty, pos, aft, none⟩ :: rest) Q E L :=
  go_yld rfl (fun _ _ => y_field hx hf) hd k
theorem gix {x ix : Operand} {A : Option Addr} {m c sz : Nat} {k : IntKind} {i : Int} {t e : TypeId} (hx : eev E x = some (.slice A m c)) (hi : eev E ix = some (.int k i)) (ht : P.underlying t = some (.slice e)) (hz : szB P e = some sz) [hR : Rw w0 X L (.slice A m c) R gs] [hs : SzIs R sz] (hb : 0 ≤ i ∧ i < m) (hd : Nat.blt d n = true)
    (kk : Ix i m → GO P n w0 X (nextM s) ops rest Q ((d, .pointer (some (el A m c sz i))) :: E) L) : GO P n w0 X s ops (⟨some d, .indexAddr t x ix, ty, pos, aft, none⟩ :: rest) Q E L :=
  go_yld rfl (fun w hw => by
    have hl := hR.len hw
    obtain ⟨A', c', e', h1, h2, h3, hr⟩ := hR.get w hw
    cases e'
    obtain ⟨b, o, rfl, hc⟩ := hr (by rw [Rep.len]; exact Nat.mul_pos (by omega) R.pos)
    rw [el_eq]
    exact y_index_slice hx hi ht hz hb.1 hb.2) hd (kk ⟨hb⟩)
theorem gixa {x ix : Operand} {g o m sz : Nat} {k : IntKind} {i : Int} {t e : TypeId} (hx : eev E x = some (.pointer (some ⟨g, o, none⟩))) (hi : eev E ix = some (.int k i)) (ht : P.underlying t = some (.array m e)) (hz : szB P e = some sz) (hb : 0 ≤ i ∧ i < m) (hd : Nat.blt d n = true)
    (kk : Ix i m → GO P n w0 X (nextM s) ops rest Q ((d, .pointer (some (ela g o m sz i))) :: E) L) : GO P n w0 X s ops (⟨some d, .indexAddr t x ix, ty, pos, aft, none⟩ :: rest) Q E L :=
  go_yld rfl (fun w hw => by rw [ela_eq]; exact y_index_array hx hi ht hz hb.1 hb.2) hd (kk ⟨hb⟩)
/-! cuts -/
theorem go_with {l : List Oper} (h : ∀ w, St w0 X L w → GO P n w0 X s ops l Q E L) : GO P n w0 X s ops l Q E L := by
  cases s with
  | none => exact ⟨fun w hw => (h w hw).go w hw⟩
  | some p =>
    obtain ⟨r, D⟩ := p
    cases r with
    | nil => cases l with
      | nil => exact ⟨fun w hw => (h w hw).go w hw⟩
      | cons o l => exact ⟨trivial⟩
    | cons i r => cases l with
      | nil => exact ⟨trivial⟩
      | cons o l => exact ⟨fun hh ph w hw => (h w hw).go hh ph w hw⟩
theorem gc_with {c : Code} (h : ∀ w, St w0 X L w → GC P n w0 X c Q E L) : GC P n w0 X c Q E L := ⟨fun w hw => (h w hw).go w hw⟩
theorem Rw.cap {A : Option Addr} {m c : Nat} (hR : Rw w0 X L (.slice A m c) R gs) {w : World} (hw : St w0 X L w) : gs.length = m ∧ m ≤ c ∧ c ≤ 9223372036854775807 := by
  have hl := hR.len hw
  obtain ⟨A', c', e, h1, h2, h3, hr⟩ := hR.get w hw
  cases e
  exact ⟨hl, by omega, by simpa [maxLen] using h3⟩
section cuts
variable {x lo hi mx : Operand} {A : Option Addr} {m c sz : Nat} {kl kh km : IntKind} {l h mm : Int} {t e : TypeId}
theorem gc3 (hx : eev E x = some (.slice A m c)) (hl : eev E lo = some (.int kl l)) (hh : eev E hi = some (.int kh h)) (hm : eev E mx = some (.int km mm)) (ht : P.underlying t = some (.slice e)) (hz : szB P e = some sz) [hR : Rw w0 X L (.slice A m c) R gs] (hb : 0 ≤ l ∧ l ≤ h ∧ h ≤ m ∧ h ≤ mm ∧ mm ≤ m) (hd : Nat.blt d n = true)
    (kk : Cu l (h - l).toNat m c mm.toNat (mm.toNat - l.toNat) → GO P n w0 X (nextM s) ops rest Q ((d, .slice (cutA A m c mm.toNat sz l) (h - l).toNat (mm.toNat - l.toNat)) :: E) L) : GO P n w0 X s ops (⟨some d, .slice t x (some lo) (some hi) (some mx), ty, pos, aft, none⟩ :: rest) Q E L :=
  go_with fun w hw => by
    have hc := hR.cap hw
    refine go_yld rfl (fun _ _ => ?_) hd (kk ⟨by omega⟩)
    have := y_cut_lhm (P := P) (n := n) (d := d) (ty := ty) (pos := pos) (aft := aft) hx hl hh hm ht hz hb.1 hb.2.1 hb.2.2.2.1 (by omega)
    have e : h.toNat - l.toNat = (h - l).toNat := by omega
    rw [e] at this; unfold cutA; exact this
theorem gc2 (hx : eev E x = some (.slice A m c)) (hl : eev E lo = some (.int kl l)) (hh : eev E hi = some (.int kh h)) (ht : P.underlying t = some (.slice e)) (hz : szB P e = some sz) [hR : Rw w0 X L (.slice A m c) R gs] (hb : 0 ≤ l ∧ l ≤ h ∧ h ≤ m) (hd : Nat.blt d n = true)
    (kk : Cu l (h - l).toNat m c c (c - l.toNat) → GO P n w0 X (nextM s) ops rest Q ((d, .slice (cutA A m c c sz l) (h - l).toNat (c - l.toNat)) :: E) L) : GO P n w0 X s ops (⟨some d, .slice t x (some lo) (some hi) none, ty, pos, aft, none⟩ :: rest) Q E L :=
  go_with fun w hw => by
    have hc := hR.cap hw
    refine go_yld rfl (fun _ _ => ?_) hd (kk ⟨by omega⟩)
    have := y_cut_lh (P := P) (n := n) (d := d) (ty := ty) (pos := pos) (aft := aft) hx hl hh ht hz hb.1 hb.2.1 (by omega)
    have e : h.toNat - l.toNat = (h - l).toNat := by omega
    rw [e] at this; unfold cutA; exact this
theorem gch (hx : eev E x = some (.slice A m c)) (hh : eev E hi = some (.int kh h)) (ht : P.underlying t = some (.slice e)) (hz : szB P e = some sz) [hR : Rw w0 X L (.slice A m c) R gs] (hb : 0 ≤ h ∧ h ≤ m) (hd : Nat.blt d n = true)
    (kk : Cu 0 h.toNat m c c c → GO P n w0 X (nextM s) ops rest Q ((d, .slice (cutA A m c c sz 0) h.toNat c) :: E) L) : GO P n w0 X s ops (⟨some d, .slice t x none (some hi) none, ty, pos, aft, none⟩ :: rest) Q E L :=
  go_with fun w hw => by
    have hc := hR.cap hw
    refine go_yld rfl (fun _ _ => ?_) hd (kk ⟨by omega⟩)
    have := y_cut_h (P := P) (n := n) (d := d) (ty := ty) (pos := pos) (aft := aft) hx hh ht hz hb.1 (by omega)
    unfold cutA; exact this
theorem gcl (hx : eev E x = some (.slice A m c)) (hl : eev E lo = some (.int kl l)) (ht : P.underlying t = some (.slice e)) (hz : szB P e = some sz) [hR : Rw w0 X L (.slice A m c) R gs] (hb : 0 ≤ l ∧ l ≤ m) (hd : Nat.blt d n = true)
    (kk : Cu l (m - l.toNat) m c c (c - l.toNat) → GO P n w0 X (nextM s) ops rest Q ((d, .slice (cutA A m c c sz l) (m - l.toNat) (c - l.toNat)) :: E) L) : GO P n w0 X s ops (⟨some d, .slice t x (some lo) none none, ty, pos, aft, none⟩ :: rest) Q E L :=
  go_with fun w hw => by
    have hc := hR.cap hw
    refine go_yld rfl (fun _ _ => ?_) hd (kk ⟨by omega⟩)
    have := y_cut_l (P := P) (n := n) (d := d) (ty := ty) (pos := pos) (aft := aft) hx hl ht hz hb.1 hb.2
    unfold cutA; exact this
/-- all of an array -/
theorem gca {g o k : Nat} (hx : eev E x = some (.pointer (some ⟨g, o, none⟩))) (ht : P.underlying t = some (.array k e)) (hz : szB P e = some sz) (hd : Nat.blt d n = true)
    (kk : GO P n w0 X (nextM s) ops rest Q ((d, .slice (some ⟨g, o, none⟩) k k) :: E) L) : GO P n w0 X s ops (⟨some d, .slice t x none none none, ty, pos, aft, none⟩ :: rest) Q E L :=
  go_yld rfl (fun w hw => y_arr_all hx ht hz) hd kk
end cuts
instance Rw.cut {A : Option Addr} {m c c' c2 k sz : Nat} {l : Int} [hb : Cu l k m c c2 c'] [hR : Rw w0 X L (.slice A m c) R gs] [hs : SzIs R sz] : Rw w0 X L (.slice (cutA A m c c2 sz l) k c') R ((gs.drop l.toNat).take k) := ⟨fun w hw => by
  have hl := hR.len hw
  obtain ⟨A', c1, e, h1, h2, h3, hr⟩ := hR.get w hw
  cases e
  have hsz := hs.h; subst hsz
  have hb := hb.h
  have hkk : ((gs.drop l.toNat).take k).length = k := by simp; omega
  refine ⟨_, c', by rw [hkk], by rw [Rep.len], by rw [hkk]; omega, by omega, ?_⟩
  have := hr.cut (c := c2) (k := l.toNat) (m := k * R.sz) (size := R.sz) fun e => by
    left
    have : k = 0 := by omega
    subst this; simp
  rw [Rep.all_drop, Rep.all_take] at this
  unfold cutA; exact this⟩
/-- an array of a block, as a slice -/
class Blk (cs : List Cs) (o m : Nat) {G : outParam Type} (R : outParam (Rep G)) (gs : outParam (List G)) : Prop where
  h : okS cs → ((flat cs).drop o).take m = R.all gs ∧ (R.all gs).length = m
instance Blk.hd {m : Nat} {r : List Cs} : Blk (.blk m (R.all gs) :: r) 0 m R gs := ⟨fun ok => by
  have := ok.1
  simp only [flat, Cs.cells, List.drop_zero]
  exact ⟨by rw [List.take_append, List.take_of_length_le (by omega), this]; simp, this⟩⟩
instance Blk.tl1 {u : Value} {o m : Nat} {r : List Cs} [h : Blk r o m R gs] : Blk (.one u :: r) (o + 1) m R gs := ⟨fun ok => by simpa [flat, Cs.cells] using h.h ok⟩
instance Blk.tl2 {xs : List Value} {o m k : Nat} {r : List Cs} [h : Blk r o m R gs] : Blk (.blk k xs :: r) (o + k) m R gs := ⟨fun ok => by
  have h1 := h.h ok.2
  refine ⟨?_, h1.2⟩
  simp only [flat, Cs.cells]
  rw [List.drop_append, List.drop_eq_nil_of_le (by rw [ok.1]; omega), List.nil_append, ok.1, Nat.add_sub_cancel]; exact h1.1⟩
instance Rw.box {g o m : Nat} {t : TypeId} {cs : List Cs} [h : FBox L g t cs] [hb : Blk cs o m R gs] [hs : SzIs R 1] [hm : NLe m 4096] : Rw w0 X L (.slice (some ⟨g, o, none⟩) m m) R gs := ⟨fun w hw => by
  obtain ⟨ok, hc⟩ := box_cells h hw
  obtain ⟨h1, h2⟩ := hb.h ok
  have hsz := hs.h
  have hl : gs.length = m := by rw [Rep.len, hsz, Nat.mul_one] at h2; exact h2
  have hm := hm.h
  refine ⟨_, m, by rw [hl], by rw [Rep.len], by omega, by simp [maxLen]; omega, fun _ => ⟨g, o, rfl, fun j u hj => ?_⟩⟩
  rw [hc]
  have hjl : j < m := by rw [← h2]; exact (List.getElem?_eq_some_iff.1 hj).1
  rw [← h1, List.getElem?_take_of_lt hjl, List.getElem?_drop] at hj
  exact hj⟩
end
end Go.Proofs.YtkjpemkankefnaaDoor
