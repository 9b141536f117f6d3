/-
  bytes.Equal, moneyerref00: contracts.
-/
import Derived.Test.YtalainpmlonahaaDoorVtypes
set_option linter.all false
set_option maxRecDepth 100000
set_option maxHeartbeats 4000000
namespace Go.Proofs.YtalainpmlonahaaDoor
open Go.RowKit

theorem bytes_Equal (aA : Option Addr) (ac : Nat) (a : List UInt8) (bA : Option Addr) (bc : Nat) (b : List UInt8) (w0 : World) (ha : Slr w0 RB (.slice aA a.length ac) a) (hb : Slr w0 RB (.slice bA b.length bc) b)  :
    Ct Tryd.prog 65 [.slice aA a.length ac, .slice bA b.length bc] w0 no (fun ((e0) : Bool) => .bool e0) (fun (e0) => []) (fun (e0) => e0 = decide (a = b)) := by
  have hst := St.start w0
  have i_a := Rw.old ha
  have i_b := Rw.old hb
  refine genter _ hst Tryd.func65 rfl rfl rfl rfl ?_
  repeat' (first
   | (refine z1 ?_; intros)
   | (refine z2 ?_ ?_ <;> first | exact zi | intro h | skip)
   | (refine kR ?_; refine zr (_) ?_)
   | (refine kO ?_; refine zc ?_ ?_ <;> intros))
  all_goals trivial
instance c_bytes_Equal {aA : Option Addr} {ac an : Nat} {a : List UInt8} {bA : Option Addr} {bc bn : Nat} {b : List UInt8} {w0 : World} {X : Nat → Prop} {L : List Assn} [ha : Rw w0 X L (.slice aA an ac) RB a] [hb : Rw w0 X L (.slice bA bn bc) RB b] : Ctr Tryd.prog 65 [.slice aA an ac, .slice bA bn bc] w0 X L (True) (fun _ : Unit => .bool (decide (a = b))) (fun _ : Unit => L) (fun _ : Unit => True) :=
  ctr' (M' := (fun _ : Unit => [])) (by kernel_rfl) (fun hp w hw => by have ea := ha.len hw; subst ea; have eb := hb.len hw; subst eb; exact bytes_Equal _ _ _ _ _ _ w (ha.get w hw) (hb.get w hw)) (by rintro hp e0 rfl ok; exact ⟨(), rfl, rfl, trivial⟩)
theorem ixd_ext {α : Type} [Inhabited α] {a b : List α} (hl : a.length = b.length) (h : ∀ j, j < a.length → ixd a (j : Int) = ixd b (j : Int)) : a = b := by
  apply List.ext_getElem hl
  intro i h1 h2
  have := h i h1
  rwa [ixd_eq (by simpa using h1), ixd_eq (by simpa using h2)] at this
theorem map_ixd {α β : Type} [Inhabited α] {f : α → β} {a b : List α} (hl : a.length = b.length) (h : ∀ j, j < a.length → f (ixd a (j : Int)) = f (ixd b (j : Int))) : a.map f = b.map f := by
  apply List.ext_getElem (by simpa using hl)
  intro i h1 h2
  have := h i (by simpa using h1)
  rw [ixd_eq (by simpa using h1), ixd_eq (by simpa using h2)] at this
  simpa using this
theorem map_ixd_ne {α β : Type} [Inhabited α] {f : α → β} {a b : List α} {j : Nat} (hj : j < a.length) (hl : a.length = b.length) (h : f (ixd a (j : Int)) ≠ f (ixd b (j : Int))) : a.map f ≠ b.map f := fun e => h (by
  rw [ixd_eq (by simpa using hj), ixd_eq (by simpa using (show j < b.length by omega))]
  have := congrArg (fun l => l[j]?) e
  simp only [List.getElem?_map] at this
  rw [List.getElem?_eq_getElem hj, List.getElem?_eq_getElem (show j < b.length by omega)] at this
  simpa using this)
theorem ref00_Same (aA : Option Addr) (ac : Nat) (a : List UInt8) (bA : Option Addr) (bc : Nat) (b : List UInt8) (w0 : World) (ha : Slr w0 RB (.slice aA a.length ac) a) (hb : Slr w0 RB (.slice bA b.length bc) b)  :
    Ct Tryd.prog 20 [.slice aA a.length ac, .slice bA b.length bc] w0 no (fun ((e0) : Bool) => .bool e0) (fun (e0) => []) (fun (e0) => e0 = decide (a = b)) := by
  have hst := St.start w0
  have i_a := Rw.old ha
  have i_b := Rw.old hb
  refine genter _ hst Tryd.func20 rfl rfl rfl rfl ?_
  have hcap := ha.cap
  repeat' (first
   | refine gdraw (id := 6) [0,1,2,3,4,5,6,7,8] (by kernel_rfl) (by kernel_rfl) rfl ?_
   | (refine z1 ?_; intros)
   | (refine z2 ?_ ?_ <;> first | exact zi | intro h | skip)
   | (refine kR ?_; refine zr (_) ?_)
   | (refine kO ?_; refine zc ?_ ?_ <;> intros))
  · grind
  · refine gloop [0, 1] (fun (i : Nat) K => (5, .int .i64 i) :: K) (fun i => []) (fun i => i ≤ a.length ∧ ∀ j, j < i → ixd a (j : Int) = ixd b (j : Int)) (fun i => a.length - i) 0 rfl (by repeat (first | exact trivial | refine ⟨rfl, ?_⟩)) Ent.nil (by simp) (fun i hi => ?_)
    repeat' (first
     | refine gdraw (id := 6) [0,1,2,3,4,5,6,7,8] (by kernel_rfl) (by kernel_rfl) rfl ?_
     | (refine z1 ?_; intros)
     | (refine z2 ?_ ?_ <;> first | exact zi | intro h | skip)
     | (refine kR ?_; refine zr (_) ?_)
     | (refine kO ?_; refine zc ?_ ?_ <;> intros))
    · have : a ≠ b := fun e => by subst e; omega
      simp [this]
    · refine gnl (i + 1) (by repeat (first | exact trivial | refine ⟨rfl, ?_⟩)) Ent.nil ⟨by omega, fun j hj => ?_⟩ (by omega)
      by_cases e : j = i
      · subst e; apply UInt8.toNat_inj.1; omega
      · exact hi.2 j (by omega)
    · have : a = b := ixd_ext (by omega) fun j hj => hi.2 j (by omega)
      simp [this]
instance c_ref00_Same {aA : Option Addr} {ac an : Nat} {a : List UInt8} {bA : Option Addr} {bc bn : Nat} {b : List UInt8} {w0 : World} {X : Nat → Prop} {L : List Assn} [ha : Rw w0 X L (.slice aA an ac) RB a] [hb : Rw w0 X L (.slice bA bn bc) RB b] : Ctr Tryd.prog 20 [.slice aA an ac, .slice bA bn bc] w0 X L (True) (fun _ : Unit => .bool (decide (a = b))) (fun _ : Unit => L) (fun _ : Unit => True) :=
  ctr' (M' := (fun _ : Unit => [])) (by kernel_rfl) (fun hp w hw => by have ea := ha.len hw; subst ea; have eb := hb.len hw; subst eb; exact ref00_Same _ _ _ _ _ _ w (ha.get w hw) (hb.get w hw)) (by rintro hp e0 rfl ok; exact ⟨(), rfl, rfl, trivial⟩)
end Go.Proofs.YtalainpmlonahaaDoor
