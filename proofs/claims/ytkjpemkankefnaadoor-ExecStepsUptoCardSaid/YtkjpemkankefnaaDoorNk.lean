/-
  THE SECOND ENGINE, eleventh part: functions that have captured a block; bytes of a string. No program in sight.
-/
import Derived.Test.YtkjpemkankefnaaDoorNi
set_option linter.all false
set_option maxRecDepth 100000
namespace Go.Proofs.YtkjpemkankefnaaDoor
open Go.RowKit
section
variable {P : Program} {n : Nat} {w0 : World} {X : Nat → Prop} {Q : Cont} {E : Env} {L L' : List Assn} {s : Ms} {ops : Array Oper} {rest : List Oper} {v : Value}
variable {d : Nat} {ty : TypeId} {pos : String} {aft : Array Edge} {ats : Array TypeId} {pre : Prop} {ρ : Type} {val : ρ → Value} {M : ρ → List Assn} {φ : ρ → Prop} {f : FuncId}
theorem gcc1 {fo x : Operand} {u c : Value} (hf : eev E fo = some (.func (.func f) #[] #[c])) (hx : eev E x = some u) [h : Ctr P f [u, c] w0 X L pre val M φ] (hp : Pre pre) (hd : Nat.blt d n = true) (hD : ∀ r, φ r → Dm w0 X ops s (M r))
    (k : ∀ r, φ r → GO P n w0 X (nextM s) ops rest Q ((d, val r) :: E) (M r)) : GO P n w0 X s ops (⟨some d, .call { callee := .value fo, args := #[x], argTypes := ats }, ty, pos, aft, none⟩ :: rest) Q E L := by
  have h' : Ctr P f ([] ++ [u] ++ [c]) w0 X L pre val M φ := h
  exact gca' (xs := [x]) (vs := [u]) (first := []) (cap := [c]) hf (by simp only [evs, hx]) hp hd hD k
theorem gmf {fn : Fn} {x : Operand} (hx : eev E x = some v) (hd : Nat.blt d n = true) (hD : Dm w0 X ops s L)
    (k : GO P n w0 X (nextM s) ops rest Q ((d, .func fn #[] #[v]) :: E) L) : GO P n w0 X s ops (⟨some d, .makeFunc fn #[] #[x], ty, pos, aft, none⟩ :: rest) Q E L := by
  refine go_hv (ρ := Unit) (E' := fun _ => (d, .func fn #[] #[v]) :: E) (L' := fun _ => L) (φ := fun _ => True) rfl (fun w hw rest Q k' => ?_) (fun _ _ => hD) (fun _ _ => k)
  refine tl_run (w' := w) (fun a ha => ?_) hd (k' () w trivial hw)
  have h1 := ha.ev hx
  simp [execOp, Instr.makeFunc, h1]
/-- a byte of a text that is written out: as a list tells -/
theorem gstr {x ix : Operand} {t : TypeId} {b : ByteArray} {i : Int} {k : IntKind} {l : List UInt8} {m : Nat} [hm : LenIs l m] (hx : eev E x = some (.string b)) (hi : eev E ix = some (.int k i)) (ht : P.underlying t = some .string) (hb : 0 ≤ i ∧ i < m) (hl : b.data.toList = l) (hd : Nat.blt d n = true)
    (kk : GO P n w0 X (nextM s) ops rest Q ((d, .int .u8 ((ixd l i).toNat : Int)) :: E) L) : GO P n w0 X s ops (⟨some d, .index t x ix, ty, pos, aft, none⟩ :: rest) Q E L := by
  refine go_yld rfl (fun _ _ => ⟨fun a w hc => ?_⟩) hd kk
  obtain ⟨h0, h1⟩ := hb
  have hlt : i.toNat < l.length := by rw [hm.h]; omega
  have hlt' : i.toNat < b.size := by have e : b.data.size = b.size := rfl; rw [← e, ← Array.length_toList, hl]; exact hlt
  have e : b[i.toNat]? = some l[i.toNat] := by
    rw [getElem?_pos b i.toNat hlt']
    subst hl
    rfl
  simp only [execOp, hc.ev hx, hc.ev hi, Instr.index, asIntOf, Sem.run_bind, Sem.run_pure, Result.andThen_ok, run_underlying ht, if_pos h0, e, ixd_eq hlt]
/-- a loop of four variables -/
def loop4 {σ τ υ ν : Type} (w0 : World) (X : Nat → Prop) (E' : σ → τ → υ → ν → Env) (L' : σ → τ → υ → ν → List Assn) (φ : σ → τ → υ → ν → Prop) (m : σ → τ → υ → ν → Nat) (k : Nat) (Q : Cont) : Cont :=
  .loop (σ × τ × υ × ν) (fun p => E' p.1 p.2.1 p.2.2.1 p.2.2.2) (fun p w => φ p.1 p.2.1 p.2.2.1 p.2.2.2 ∧ St w0 X (L' p.1 p.2.1 p.2.2.1 p.2.2.2) w) (fun p => m p.1 p.2.1 p.2.2.1 p.2.2.2) k Q
theorem gloop4 {σ τ υ ν : Type} (ds : List Nat) (E' : σ → τ → υ → ν → Env → Env) (L' : σ → τ → υ → ν → List Assn) (φ : σ → τ → υ → ν → Prop) (m : σ → τ → υ → ν → Nat) (x : σ) (y : τ) (z : υ) (u : ν) {K : Env} {c : Code} (hk : evl E ds = some K) (hs : ESub E (E' x y z u K)) (hL : Ent L (L' x y z u)) (hφ : φ x y z u)
    (round : ∀ x y z u, φ x y z u → GC P n w0 X c (loop4 w0 X (fun x y z u => E' x y z u K) L' φ m (m x y z u) Q) (E' x y z u K) (L' x y z u)) : GC P n w0 X (.loop c) Q E L :=
  ⟨fun w hw => t_loop (fun p : σ × τ × υ × ν => E' p.1 p.2.1 p.2.2.1 p.2.2.2 K) (fun (p : σ × τ × υ × ν) w => φ p.1 p.2.1 p.2.2.1 p.2.2.2 ∧ St w0 X (L' p.1 p.2.1 p.2.2.1 p.2.2.2) w) (fun p : σ × τ × υ × ν => m p.1 p.2.1 p.2.2.1 p.2.2.2) (x, y, z, u) hs ⟨hφ, hL.go _ _ _ hw⟩ fun (p : σ × τ × υ × ν) w hj => (round p.1 p.2.1 p.2.2.1 p.2.2.2 hj.1).go w hj.2⟩
theorem gnl4 {σ τ υ ν : Type} {E' : σ → τ → υ → ν → Env} {L' : σ → τ → υ → ν → List Assn} {φ : σ → τ → υ → ν → Prop} {m : σ → τ → υ → ν → Nat} {k : Nat} (x : σ) (y : τ) (z : υ) (u : ν) (hs : ESub E (E' x y z u)) (hL : Ent L (L' x y z u)) (hφ : φ x y z u) (hm : m x y z u < k) : GN P n w0 X (loop4 w0 X E' L' φ m k Q) E L :=
  ⟨fun w hw => n_loop (x, y, z, u) hs ⟨hφ, hL.go _ _ _ hw⟩ hm⟩
end
end Go.Proofs.YtkjpemkankefnaaDoor
