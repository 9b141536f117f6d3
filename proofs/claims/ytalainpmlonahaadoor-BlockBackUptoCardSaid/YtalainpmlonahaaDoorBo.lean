/-
  What the rows' laid variables say; blocks among the arguments.
-/
import Derived.Test.YtalainpmlonahaaDoorBr
import Derived.Test.YtalainpmlonahaaDoorVkok
import Derived.Test.YtalainpmlonahaaDoorVtxo
import Derived.LaidHandle
set_option linter.all false
set_option maxRecDepth 100000
set_option maxHeartbeats 4000000
namespace Go.Proofs.YtalainpmlonahaaDoor
open Go.RowKit Go.ChangeShapes Go.WideShapes Go.ChangeAt Go.MakeChecks
abbrev laidAll : List (String × DataW Unit) := [("errors.errorType", Rows.laid_errors_errorType), ("moneyer/sha.k", Rows.laid_moneyer_sha_k)]
theorem laid_two {w : World} (h : laidMetH Tryd.prog laidAll w) : laidMet Tryd.prog [("moneyer/sha.k", Rows.laid_moneyer_sha_k)] w ∧ handlesMet Tryd.prog [("errors.errorType", Rows.laid_errors_errorType)] w := h
theorem kokH {w : World} (h : laidMetH Tryd.prog laidAll w) : KOk w :=
  kok (l := [("moneyer/sha.k", Rows.laid_moneyer_sha_k)]) (List.mem_cons_self ..) (by kernel_rfl) (by rw [laidMetH_plain _ _ _ (by kernel_rfl)]; exact (laid_two h).1)
theorem eokH {w : World} (h : laidMetH Tryd.prog laidAll w) : EOk w := by
  obtain ⟨name, u, ty, e1, e2, e3, e4, e5⟩ := (laid_two h).2 _ (List.mem_singleton.2 rfl)
  have en : name = [101, 114, 114, 111, 114] := (Option.some.inj e1).symm
  subst en
  have rt : (Tryd.prog.cutTypes.find? (·.1 == "internal/reflectlite.rtype")).map (·.2) = some 160 := by kernel_rfl
  obtain rfl := Option.some.inj (rt.symm.trans e2)
  have sz : Tryd.prog.types.size = 218 := by kernel_rfl
  have oneRow : ((List.range 218).filter fun t => Tryd.prog.rowNamed t [101, 114, 114, 111, 114]) = [59] := by kernel_rfl
  have hm : ty ∈ (List.range 218).filter fun t => Tryd.prog.rowNamed t [101, 114, 114, 111, 114] := List.mem_filter.2 ⟨List.mem_range.2 (by rw [← sz]; exact e3), e4⟩
  rw [oneRow] at hm
  obtain rfl := List.mem_singleton.1 hm
  have hh : typeHandle Tryd.prog 59 = .pointer (some ⟨2, 59, none⟩) := by kernel_rfl
  rw [hh] at e5
  have et : Tryd.prog.globalNamed "errors.errorType" = some 0 := by kernel_rfl
  simpa [EOk] using World.var?_cell et e5 0
/-- a block that is handed in -/
structure BkG where
  hd : Hd
  s : Sv
  txs : List TxG
@[reducible] def BkG.sg (b : BkG) : List Cs := [.blk 32 (RB.all b.hd.prev.l), .blk 32 (RB.all b.hd.root.l), .one (.int .u32 b.hd.tm), .one (.int .u32 b.hd.bits), .one (.int .u32 b.hd.nonce), .one (.slice b.s.A b.txs.length b.s.c)]
structure BkG.P (w : World) (b : BkG) : Prop where
  n : HdN b.hd.tm b.hd.bits b.hd.nonce
  t : Slr w RTx (.slice b.s.A b.txs.length b.s.c) b.txs
  p : TxsP w b.txs
section
variable {H : Type} {enc : TypeId × Value → H} {w : World}
theorem op_head : Op enc Tryd.prog w 33 (fun h : Hd => [.blk 32 (RB.all h.prev.l), .blk 32 (RB.all h.root.l), .one (.int .u32 h.tm), .one (.int .u32 h.bits), .one (.int .u32 h.nonce)]) (fun h => HdN h.tm h.bits h.nonce) (fun _ => 0) := by
  refine Op.fields (specs := [(30, 0, 32), (30, 32, 32), (31, 64, 1), (31, 65, 1), (31, 66, 1)]) (l := [(30, 32), (30, 32), (31, 1), (31, 1), (31, 1)]) (by kernel_rfl) (by kernel_rfl) fun cs b h => ?_
  obtain ⟨g1, c1, rfl, h1, b1, h⟩ := h.cons op_hash
  obtain ⟨g2, c2, rfl, h2, b2, h⟩ := h.cons op_hash
  obtain ⟨g3, c3, rfl, h3, b3, h⟩ := h.cons (Op.int (k := .u32) (by kernel_rfl))
  obtain ⟨g4, c4, rfl, h4, b4, h⟩ := h.cons (Op.int (k := .u32) (by kernel_rfl))
  obtain ⟨g5, c5, rfl, h5, b5, h⟩ := h.cons (Op.int (k := .u32) (by kernel_rfl))
  obtain rfl : c5 = [] := h
  exact ⟨⟨g1, g2, g3, g4, g5⟩, by simp [flat, Cs.cells], ⟨wf_u32 h3, wf_u32 h4, wf_u32 h5⟩, Nat.zero_le _⟩
theorem op_block : Op enc Tryd.prog w 36 BkG.sg (BkG.P w) (fun b => (b.txs.map TxG.wt).sum) := by
  refine Op.fields (specs := [(33, 0, 67), (34, 67, 1)]) (l := [(33, 67), (34, 1)]) (by kernel_rfl) (by kernel_rfl) fun cs b h => ?_
  obtain ⟨g1, c1, rfl, h1, b1, h⟩ := h.cons op_head
  obtain ⟨g2, c2, rfl, h2, b2, h⟩ := h.cons (Op.slice (e := 57) (R := RTx) (by kernel_rfl) (by kernel_rfl) op_tx)
  obtain rfl : c2 = [] := h
  exact ⟨⟨g1, g2.1, g2.2⟩, by simp [flat, Cs.cells, BkG.sg], ⟨h1, h2.1, h2.2⟩, by simp only at b2 ⊢; omega⟩
end
end Go.Proofs.YtalainpmlonahaaDoor
