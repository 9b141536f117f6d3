/-
  OPENING ARGUMENTS: hashes, points, outputs, inputs, transactions, coins.
-/
import Derived.Test.YtalainpmlonahaaDoorVopen
import Derived.Test.YtalainpmlonahaaDoorVrow
import Derived.Test.YtalainpmlonahaaDoorVtxP
set_option linter.all false
set_option maxRecDepth 100000
set_option maxHeartbeats 4000000
namespace Go.Proofs.YtalainpmlonahaaDoor
open Go.RowKit Go.ChangeShapes Go.WideShapes Go.ChangeAt
section
variable {H : Type} {enc : TypeId × Value → H} {w : World}
theorem op_hash : Op enc Tryd.prog w 30 (fun h : Hsh => [.blk 32 (RB.all h.l)]) (fun _ => True) (fun _ => 0) :=
  (Op.array (n := 32) (e := 5) (by kernel_rfl) (by kernel_rfl) (by kernel_rfl) (by kernel_rfl)).mono fun l h => ⟨⟨l, h⟩, rfl, trivial, Nat.zero_le _⟩
theorem op_point : Op enc Tryd.prog w 72 (fun p : Hsh × Int × Int => [.blk 32 (RB.all p.1.l), .one (.int .u16 p.2.1), .one (.int .u32 p.2.2)]) (fun p => 0 ≤ p.2.1 ∧ p.2.1 ≤ 65535 ∧ 0 ≤ p.2.2 ∧ p.2.2 ≤ 4294967295) (fun _ => 0) := by
  refine Op.fields (specs := [(30, 0, 32), (70, 32, 1), (31, 33, 1)]) (l := [(30, 32), (70, 1), (31, 1)]) (by kernel_rfl) (by kernel_rfl) fun cs b h => ?_
  obtain ⟨g1, c1, rfl, h1, b1, h⟩ := h.cons op_hash
  obtain ⟨g2, c2, rfl, h2, b2, h⟩ := h.cons (Op.int (k := .u16) (by kernel_rfl))
  obtain ⟨g3, c3, rfl, h3, b3, h⟩ := h.cons (Op.int (k := .u32) (by kernel_rfl))
  obtain rfl : c3 = [] := h
  exact ⟨(g1, g2, g3), by simp [flat, Cs.cells], ⟨(wf_u16 h2).1, (wf_u16 h2).2, (wf_u32 h3).1, (wf_u32 h3).2⟩, Nat.zero_le _⟩
theorem op_bytes : Op enc Tryd.prog w 28 (fun x : Sv × List UInt8 => [.one (.slice x.1.A x.2.length x.1.c)]) (fun x => Slr w RB (.slice x.1.A x.2.length x.1.c) x.2) (fun x => x.2.length) :=
  Op.bytes (e := 5) (by kernel_rfl) (by kernel_rfl) (by kernel_rfl)
theorem op_in : Op enc Tryd.prog w 74 RIn.sg (InP w) (fun g => g.ul.length + 1) := by
  refine Op.fields (specs := [(72, 0, 34), (28, 34, 1)]) (l := [(72, 34), (28, 1)]) (by kernel_rfl) (by kernel_rfl) fun cs b h => ?_
  obtain ⟨g1, c1, rfl, h1, b1, h⟩ := h.cons op_point
  obtain ⟨g2, c2, rfl, h2, b2, h⟩ := h.cons op_bytes
  obtain rfl : c2 = [] := h
  exact ⟨⟨g1.1, g1.2.1, g1.2.2, g2.2, g2.1⟩, by simp [flat, Cs.cells, RIn], ⟨h1, h2⟩, by simp only at b2 ⊢; omega⟩
theorem op_out : Op enc Tryd.prog w 52 ROut.sg (OutP w) (fun g => g.lock.length + 1) := by
  refine Op.fields (specs := [(23, 0, 1), (28, 1, 1)]) (l := [(23, 1), (28, 1)]) (by kernel_rfl) (by kernel_rfl) fun cs b h => ?_
  obtain ⟨g1, c1, rfl, h1, b1, h⟩ := h.cons (Op.int (k := .u64) (by kernel_rfl))
  obtain ⟨g2, c2, rfl, h2, b2, h⟩ := h.cons op_bytes
  obtain rfl : c2 = [] := h
  exact ⟨⟨g1, g2.2, g2.1⟩, by simp [flat, Cs.cells, ROut], ⟨wf_u64 h1, h2⟩, by simp only at b2 ⊢; omega⟩
theorem op_tx : Op enc Tryd.prog w 57 TxG.sg (TxG.P w) TxG.wt := by
  refine Op.fields (specs := [(55, 0, 1), (22, 1, 1), (31, 2, 1)]) (l := [(55, 1), (22, 1), (31, 1)]) (by kernel_rfl) (by kernel_rfl) fun cs b h => ?_
  obtain ⟨g1, c1, rfl, h1, b1, h⟩ := h.cons (Op.slice (e := 74) (by kernel_rfl) (by kernel_rfl) op_in)
  obtain ⟨g2, c2, rfl, h2, b2, h⟩ := h.cons (Op.slice (e := 52) (by kernel_rfl) (by kernel_rfl) op_out)
  obtain ⟨g3, c3, rfl, h3, b3, h⟩ := h.cons (Op.int (k := .u32) (by kernel_rfl))
  obtain rfl : c3 = [] := h
  exact ⟨⟨g1.1, g1.2, g2.1, g2.2, g3⟩, by simp [flat, Cs.cells, TxG.sg], ⟨h1.1, h1.2, h2.1, h2.2, wf_u32 h3⟩, by simp only [TxG.wt] at b1 b2 ⊢; omega⟩
theorem sum_succ {α : Type} {f : α → Nat} : ∀ l : List α, (l.map fun x => f x + 1).sum = (l.map f).sum + l.length
  | [] => rfl
  | x :: l => by simp only [List.map_cons, List.sum_cons, List.length_cons, sum_succ l]; omega
theorem InsP.n {w : World} {gs : List InG} (h : InsP w gs) : InsN gs := fun g hg => (h g hg).1
theorem OutsP.n {w : World} {gs : List OutG} (h : OutsP w gs) : OutsN gs := fun g hg => (h g hg).1
end
end Go.Proofs.YtalainpmlonahaaDoor
