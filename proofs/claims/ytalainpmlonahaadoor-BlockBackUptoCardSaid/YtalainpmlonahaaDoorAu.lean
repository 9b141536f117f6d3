/-
  block.number: of no error, of a number of one, of one that wraps such a number.
-/
import Derived.Test.YtalainpmlonahaaDoorAt
import Derived.Test.YtalainpmlonahaaDoorMc
set_option linter.all false
set_option maxRecDepth 100000
set_option maxHeartbeats 4000000
namespace Go.Proofs.YtalainpmlonahaaDoor
open Go.RowKit

/-- what errors.errorType holds -/
def EOk (w : World) : Prop := w.cell? ⟨0, 0, none⟩ = some (.iface 160 (.agg #[.pointer (some ⟨2, 59, none⟩)]))
class ER (w0 : World) (X : Nat → Prop) (L : List Assn) : Prop where
  get : ∀ w, St w0 X L w → EOk w
theorem ER.old {w0 : World} (h : EOk w0) (L : List Assn) : ER w0 no L := ⟨fun w hst => hst.cell h⟩
theorem St.dropN {w0 w : World} {X : Nat → Prop} : ∀ {A B : List Assn}, St w0 X (A ++ B) w → St w0 X B w
  | [], _, h => h
  | _ :: _, _, h => St.dropN (St.tail h)
section
variable {P : Program} {n : Nat} {w0 : World} {X : Nat → Prop} {Q : Cont} {E : Env} {L L' : List Assn} {s : Ms} {ops : Array Oper} {rest : List Oper} {v : Value}
variable {d : Nat} {ty : TypeId} {pos : String} {aft : Array Edge}
/-- a block more, nobody's -/
theorem St.more {w : World} (hw : St w0 X L w) (o : Obj) : St w0 X L (w.alloc o) :=
  (hw.grow (w' := w.alloc o) (A' := fun h => h = hone w.heap.size o) rfl rfl rfl (by simp) (fun b hb => Below.heap_alloc w _ b hb) ⟨hone w.heap.size o, rfl, Sub.of_one (heap_alloc_new w _), fun b hb => by rw [hone_ne hb]; exact Nat.le_refl _⟩).tail
theorem gmi {x : Operand} {t : TypeId} {td : TypeDesc} (hx : eev E x = some v) (ht : P.underlying t = some td) (hi : (match td with | .interface _ => false | _ => true) = true) (hd : Nat.blt d n = true) (hD : Dm w0 X ops s L)
    (k : GO P n w0 X (nextM s) ops rest Q ((d, .iface t v) :: E) L) : GO P n w0 X s ops (⟨some d, .makeInterface t x, ty, pos, aft, none⟩ :: rest) Q E L := by
  refine go_hv (ρ := Unit) (E' := fun _ => (d, .iface t v) :: E) (L' := fun _ => L) (φ := fun _ => True) rfl (fun w hw rest Q k' => ?_) (fun _ _ => hD) (fun _ _ => k)
  refine tl_run (w' := w) (fun a ha => ?_) hd (k' () w trivial hw)
  have h1 := ha.ev hx
  simp only [execOp, Instr.makeInterface, h1, Sem.run_bind, run_underlying ht, Result.andThen_ok]
  cases td <;> first | rfl | simp at hi
end
theorem box_facts {w0 w : World} {X : Nat → Prop} {L : List Assn} {g : Nat} {t : TypeId} {u : Value} (hb : FBox L g t [.one u]) (hw : St w0 X L w) : w.heap[g]? = some (.cells #[u] t (0, 0)) := by
  obtain ⟨k, ⟨_, rfl⟩, hs⟩ := hw.getM hb.get
  exact hs.one
/-- errors.As turns the box alone -/
theorem set_box {w0 w : World} {X : Nat → Prop} {L : List Assn} {g : Nat} {t : TypeId} {u v : Value} [hv : Sg v [.one v]] (hw : St w0 X (boxA g t [.one u] :: L) w) : St w0 X (boxA g t [.one v] :: L) (w.setCell ⟨g, 0, none⟩ v) := by
  have hh := box_facts (L := boxA g t [.one u] :: L) FBox.hd hw
  rw [setCell_eq_setRow w g 0 #[u] t (0, 0) v hh]
  have := FBox.upd (L := boxA g t [.one u] :: L) (i := 0) (cs := [.one u]) (cs' := [.one v]) hv.h.2.1 rfl hw
  simpa [flat, Cs.cells] using this
instance : ZS Tryd.prog 37 [.one (.int .i64 0)] := ⟨by kernel_rfl, trivial⟩
instance c_as_nil {w0 : World} {X : Nat → Prop} {L : List Assn} {t : Value} : Ctr Tryd.prog 46 [.nilIface, t] w0 X L True (fun _ : Unit => .bool false) (fun _ => L) (fun _ => True) :=
  ⟨by kernel_rfl, fun _ w hw => (as_nil t w).mono fun e w' ⟨he, h⟩ => ⟨(), he, by rw [h]; exact hw, trivial⟩⟩
instance c_as_errno {w0 : World} {X : Nat → Prop} {L rest : List Assn} {g : Nat} {m n : Int} [hb : FBox L g 37 [.one (.int .i64 m)]] [hs : Spl L [boxA g 37 [.one (.int .i64 m)]] rest] [hE : ER w0 X L] :
    Ctr Tryd.prog 46 [.iface 37 (.int .i64 n), .iface 96 (.pointer (some ⟨g, 0, none⟩))] w0 X L True (fun _ : Unit => .bool true) (fun _ => boxA g 37 [.one (.int .i64 n)] :: rest) (fun _ => True) :=
  ⟨by kernel_rfl, fun _ w hw => by
    obtain ⟨Y, h1, h2⟩ := hw.lendS hs
    have hh := box_facts hb hw
    refine (as_errno n ⟨g, 0, none⟩ (.int .i64 m) w (hE.get w hw) (by simp [World.cell?, hh]) (by simp [World.frozen?, hh])).mono fun e w' ⟨he, h⟩ => ⟨(), he, ?_, trivial⟩
    rw [h]
    exact h2 _ _ (set_box ((((h1.more _).more _).more _).more _))⟩
instance c_as_wrong {w0 : World} {X : Nat → Prop} {L rest : List Assn} {g : Nat} {i m n : Int} [hb : FBox L g 37 [.one (.int .i64 m)]] [hs : Spl L [boxA g 37 [.one (.int .i64 m)]] rest] [hE : ER w0 X L] :
    Ctr Tryd.prog 46 [.iface 94 (.agg #[.int .i64 i, .int .i64 n]), .iface 96 (.pointer (some ⟨g, 0, none⟩))] w0 X L True (fun _ : Unit => .bool true) (fun _ => boxA g 37 [.one (.int .i64 n)] :: rest) (fun _ => True) :=
  ⟨by kernel_rfl, fun _ w hw => by
    obtain ⟨Y, h1, h2⟩ := hw.lendS hs
    have hh := box_facts hb hw
    refine (as_wrong i n ⟨g, 0, none⟩ (.int .i64 m) w (hE.get w hw) (by simp [World.cell?, hh]) (by simp [World.frozen?, hh])).mono fun e w' ⟨he, h⟩ => ⟨(), he, ?_, trivial⟩
    rw [h]
    exact h2 _ _ (set_box (((((h1.more _).more _).more _).more _).more _))⟩
theorem block_number_0  (w0 : World)   :
    Ct Tryd.prog 24 [(.nilIface)] w0 no (fun ((e0) : Int) => .int .i64 e0) (fun (e0) => []) (fun (e0) => e0 = 0) := by
  have hst := St.start w0
  refine genter _ hst Tryd.func24 rfl rfl rfl rfl ?_
  repeat' (first
   | refine gmi rfl rfl rfl rfl ?_ ?_
   | (refine z1 ?_; intros)
   | (refine z2 ?_ ?_ <;> first | exact zi | intro h | skip)
   | (refine kR ?_; refine zr (_) ?_)
   | (refine kO ?_; refine zc ?_ ?_ <;> intros)
   | (refine kD ?_; exact dz))
  all_goals rfl
instance c_block_number_0  {w0 : World} {X : Nat → Prop} {L : List Assn}  : Ctr Tryd.prog 24 [(.nilIface)] w0 X L (True) (fun _ : Unit => .int .i64 (0)) (fun _ : Unit => L) (fun _ : Unit => True) :=
  ctr' (M' := (fun _ : Unit => [])) (by kernel_rfl) (fun hp w hw => by exact block_number_0  w) (by rintro hp e0 rfl ok; exact ⟨(), rfl, rfl, trivial⟩)
theorem block_number_e (n : Int) (w0 : World) (hE : EOk w0)  :
    Ct Tryd.prog 24 [(.iface 37 (.int .i64 n))] w0 no (fun ((e0) : Int) => .int .i64 e0) (fun (e0) => []) (fun (e0) => e0 = n) := by
  have hst := St.start w0
  have j_hE := ER.old hE
  refine genter _ hst Tryd.func24 rfl rfl rfl rfl ?_
  repeat' (first
   | refine gmi rfl rfl rfl rfl ?_ ?_
   | (refine z1 ?_; intros)
   | (refine z2 ?_ ?_ <;> first | exact zi | intro h | skip)
   | (refine kR ?_; refine zr (_) ?_)
   | (refine kO ?_; refine zc ?_ ?_ <;> intros)
   | (refine kD ?_; exact dz))
  all_goals rfl
instance c_block_number_e {n : Int} {w0 : World} {X : Nat → Prop} {L : List Assn} [hE : ER w0 X L] : Ctr Tryd.prog 24 [(.iface 37 (.int .i64 n))] w0 X L (True) (fun _ : Unit => .int .i64 (n)) (fun _ : Unit => L) (fun _ : Unit => True) :=
  ctr' (M' := (fun _ : Unit => [])) (by kernel_rfl) (fun hp w hw => by exact block_number_e _ w (hE.get w hw)) (by rintro hp e0 rfl ok; exact ⟨(), rfl, rfl, trivial⟩)
theorem block_number_w (i : Int) (n : Int) (w0 : World) (hE : EOk w0)  :
    Ct Tryd.prog 24 [(.iface 94 (.agg #[.int .i64 i, .int .i64 n]))] w0 no (fun ((e0) : Int) => .int .i64 e0) (fun (e0) => []) (fun (e0) => e0 = n) := by
  have hst := St.start w0
  have j_hE := ER.old hE
  refine genter _ hst Tryd.func24 rfl rfl rfl rfl ?_
  repeat' (first
   | refine gmi rfl rfl rfl rfl ?_ ?_
   | (refine z1 ?_; intros)
   | (refine z2 ?_ ?_ <;> first | exact zi | intro h | skip)
   | (refine kR ?_; refine zr (_) ?_)
   | (refine kO ?_; refine zc ?_ ?_ <;> intros)
   | (refine kD ?_; exact dz))
  all_goals rfl
instance c_block_number_w {i : Int} {n : Int} {w0 : World} {X : Nat → Prop} {L : List Assn} [hE : ER w0 X L] : Ctr Tryd.prog 24 [(.iface 94 (.agg #[.int .i64 i, .int .i64 n]))] w0 X L (True) (fun _ : Unit => .int .i64 (n)) (fun _ : Unit => L) (fun _ : Unit => True) :=
  ctr' (M' := (fun _ : Unit => [])) (by kernel_rfl) (fun hp w hw => by exact block_number_w _ _ w (hE.get w hw)) (by rintro hp e0 rfl ok; exact ⟨(), rfl, rfl, trivial⟩)
end Go.Proofs.YtalainpmlonahaaDoor
