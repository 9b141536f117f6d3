/-
  Places: their cells; maps of them. No program in sight but its types.
-/
import Derived.Test.YtjiglibogmehfaaNj
set_option linter.all false
set_option maxRecDepth 100000
namespace Go.Proofs.Ytjiglibogmehfaa
open Go.RowKit

structure PlG where
  row : Int
  at_ : Int
deriving DecidableEq
instance : Inhabited PlG := ⟨⟨0, 0⟩⟩
def RPl : Rep PlG := ⟨2, fun p => [.one (.int .u8 p.row), .one (.int .u64 p.at_)], by decide, fun _ => ⟨trivial, rfl, rfl⟩⟩
instance : SzIs RPl 2 := ⟨rfl⟩
instance : SgF RPl (fun p => [.one (.int .u8 p.row), .one (.int .u64 p.at_)]) := ⟨rfl⟩
@[reducible] def PlOk (p : PlG) : Prop := 0 ≤ p.row ∧ p.row ≤ 255 ∧ 0 ≤ p.at_ ∧ p.at_ ≤ 18446744073709551615
instance : ZS Try.prog 32 [.one (.int .u8 0), .one (.int .u64 0)] := ⟨by kernel_rfl, OkS.one.h.1⟩
instance {r a : Int} : KVc Try.prog 32 [.one (.int .u8 r), .one (.int .u64 a)] (0 ≤ r ∧ r ≤ 255 ∧ 0 ≤ a ∧ a ≤ 18446744073709551615) := ⟨fun hp =>
  kv_struct 4 (by kernel_rfl) (specs := [(5, 0, 1), (22, 1, 1)]) (by kernel_rfl) (by kernel_rfl) OkS.one.h.1 ⟨⟨_, rfl, KV.int (by kernel_rfl) (litwf ⟨hp.1, hp.2.1⟩)⟩, ⟨_, rfl, KV.int (by kernel_rfl) (litwf ⟨hp.2.2.1, hp.2.2.2⟩)⟩, trivial⟩⟩
instance {r a : Int} : Elm RPl (.agg (flat [.one (.int .u8 r), .one (.int .u64 a)]).toArray) ⟨r, a⟩ := ⟨by simp [Value.cells, RPl]⟩
instance : EL Try.prog 32 2 16 := ⟨by
  obtain ⟨i, h1, h2, h3, h4⟩ := info_parts (show (Try.prog.info? 32).map (fun i => (i.zero, i.size, i.bytes)) = some (some (.agg (flat (RPl.sg default)).toArray), 2, 16) by kernel_rfl)
  exact ⟨i, _, h1, h2, h3, h4, rfl, by decide⟩⟩
instance : ZE Try.prog 32 RPl default := ⟨by kernel_rfl, by kernel_rfl⟩
instance : MKey Try.prog 32 RPl := ⟨by kernel_rfl, fun a b h => by
  cases a; cases b; simp [flat, RPl, Cs.cells] at h; simp [h]⟩
instance : VZ Try.prog 3 VInt 0 := ⟨by kernel_rfl⟩
theorem wf_KV {P : Program} {t : TypeId} {k : IntKind} {n : Int} (hu : P.underlying t = some (.int k)) (h : KV P t [.int k n]) : (Lit.int k n).wf = true := by
  obtain ⟨D, L, h⟩ := h
  cases D with
  | zero => simp [Program.keyLits] at h
  | succ D =>
    simp only [Program.keyLits, hu] at h
    cases hc : (Lit.int k n).wf with
    | true => rfl
    | false => simp [hc] at h
theorem KV.spec {P : Program} {t : TypeId} {cs : List Value} {specs : List (TypeId × Nat × Nat)} (hs : specsOf P t = some specs) (h : KV P t cs) {i : Nat} {x : TypeId × Nat × Nat} (hi : specs[i]? = some x) : KV P x.1 ((cs.drop x.2.1).take x.2.2) := by
  unfold specsOf at hs
  split at hs
  · rename_i fs hu
    cases hs
    rw [List.getElem?_map, Array.getElem?_toList] at hi
    exact h.part hu hi
  · cases hs
theorem pl_of_KV {p : PlG} (h : KV Try.prog 32 (flat (RPl.sg p))) : PlOk p := by
  have hs : specsOf Try.prog 32 = some [(5, 0, 1), (22, 1, 1)] := by kernel_rfl
  have a := wf_KV (k := .u8) (n := p.row) Try.underlying5 (h.spec hs (i := 0) rfl)
  have b := wf_KV (k := .u64) (n := p.at_) Try.underlying22 (h.spec hs (i := 1) rfl)
  simp [Lit.wf, IntKind.min, IntKind.max, IntKind.signed, IntKind.bits] at a b
  refine ⟨?_, ?_, ?_, ?_⟩ <;> omega
end Go.Proofs.Ytjiglibogmehfaa
