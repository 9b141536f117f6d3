/-
  VALUES WITHOUT POINTERS (bools, integers, arrays and structs of such): reading them, comparing them. No program in sight.
-/
import Derived.Test.YtkjpemkankefnaaDoorOp
import Derived.DeepKeys3
import Derived.Laws.StructEq
import GoSem.ClaimChange
namespace Go.Proofs.YtkjpemkankefnaaDoor
open Go.RowKit

theorem mapM_ex {α β : Type} {f : α → Option β} : ∀ {l : List α}, (∀ x ∈ l, ∃ y, f x = some y) → ∃ r, l.mapM f = some r
  | [], _ => ⟨[], by simp⟩
  | x :: l, h => by
    obtain ⟨y, hy⟩ := h x (by simp)
    obtain ⟨r, hr⟩ := mapM_ex (l := l) fun z hz => h z (by simp [hz])
    exact ⟨y :: r, by simp [hy, hr]⟩
theorem mapM_of {α β : Type} {f : α → Option β} : ∀ {l : List α} {r : List β}, l.mapM f = some r → ∀ x ∈ l, ∃ y, f x = some y
  | [], _, _, _, hx => by cases hx
  | z :: l, r, h, x, hx => by
    rw [List.mapM_cons] at h
    simp only [bind, Option.bind_eq_some_iff, pure, Option.some.injEq] at h
    obtain ⟨a, ha, as', has, rfl⟩ := h
    rcases List.mem_cons.1 hx with rfl | hx
    · exact ⟨a, ha⟩
    · exact mapM_of has x hx
theorem mapM_to {α β : Type} {f g : α → Option β} : ∀ {l : List α} {r : List β}, (∀ x ∈ l, ∀ y, f x = some y → g x = some y) → l.mapM f = some r → l.mapM g = some r
  | [], r, _, h => by simpa using h
  | z :: l, r, hfg, h => by
    rw [List.mapM_cons] at h ⊢
    simp only [bind, Option.bind_eq_some_iff, pure, Option.some.injEq] at h ⊢
    obtain ⟨a, ha, as', has, rfl⟩ := h
    exact ⟨a, hfg z (by simp) a ha, as', mapM_to (fun x hx => hfg x (by simp [hx])) has, rfl⟩

section
variable {P : Program}
def KV (P : Program) (t : TypeId) (cs : List Value) : Prop := ∃ D L, P.keyLits D t cs = some L
theorem lits_at : ∀ (m : Nat) {t : TypeId} {D : Nat} {cs : List Value} {L : List Lit}, P.keyTypeAt m t = true → P.keyLits D t cs = some L → P.keyLits m t cs = some L
  | 0, t, D, cs, L, h, _ => by simp [Program.keyTypeAt] at h
  | m + 1, t, 0, cs, L, _, h => by simp [Program.keyLits] at h
  | m + 1, t, D + 1, cs, L, hk, h => by
    unfold Program.keyTypeAt at hk
    unfold Program.keyLits at h ⊢
    cases hu : P.underlying t with
    | none => simp [hu] at hk
    | some kd =>
      cases kd
      case array n e =>
        simp only [hu] at hk h ⊢
        split at h
        · rename_i hl
          rw [if_pos hl]
          simp only [Option.map_eq_some_iff] at h ⊢
          obtain ⟨as, ha, rfl⟩ := h
          exact ⟨as, mapM_to (fun x _ y hy => lits_at m hk hy) ha, rfl⟩
        · cases h
      case struct fs =>
        simp only [hu, Bool.and_eq_true, Bool.not_eq_true'] at hk h ⊢
        split at h
        · rename_i hl
          rw [if_pos hl]
          simp only [Option.map_eq_some_iff] at h ⊢
          obtain ⟨as, ha, rfl⟩ := h
          refine ⟨as, mapM_to (fun f hf y hy => lits_at m ?_ hy) ha, rfl⟩
          have := Array.all_eq_true_iff_forall_mem.1 hk.1.1 f (Array.mem_toList_iff.1 hf)
          simp only [Bool.and_eq_true] at this
          exact this.2
        · cases h
      all_goals (simp only [hu] at h ⊢; first | (cases h; done) | (split at h <;> simp_all))
theorem KV.len {t : TypeId} {fs : Array Field} {cs : List Value} (hu : P.underlying t = some (.struct fs)) (h : KV P t cs) : cs.length = P.cellsOf t := by
  obtain ⟨D, L, h⟩ := h
  cases D with
  | zero => simp [Program.keyLits] at h
  | succ D =>
    unfold Program.keyLits at h
    simp only [hu] at h
    split at h
    · rename_i hl; exact hl.1
    · cases h
theorem KV.field {t : TypeId} {fs : Array Field} {cs : List Value} (hu : P.underlying t = some (.struct fs)) (h : KV P t cs) {i : Nat} {f : Field} (hf : fs[i]? = some f) : KV P f.type ((cs.drop f.offset).take (P.cellsOf f.type)) := by
  obtain ⟨D, L, h⟩ := h
  cases D with
  | zero => simp [Program.keyLits] at h
  | succ D =>
    unfold Program.keyLits at h
    simp only [hu] at h
    split at h
    · simp only [Option.map_eq_some_iff] at h
      obtain ⟨as, ha, rfl⟩ := h
      obtain ⟨y, hy⟩ := mapM_of ha f (by rw [← Array.getElem?_toList] at hf; exact List.mem_of_getElem? hf)
      exact ⟨D, y, hy⟩
    · cases h
theorem KV.part {t ft off m : Nat} {fs : Array Field} {cs : List Value} {i : Nat} (h : KV P t cs) (hu : P.underlying t = some (.struct fs)) (hf : (fs[i]?).map (fun f => (f.type, f.offset, P.cellsOf f.type)) = some (ft, off, m)) : KV P ft ((cs.drop off).take m) := by
  obtain ⟨f, h1, h2⟩ := Option.map_eq_some_iff.1 hf
  simp only [Prod.mk.injEq] at h2
  obtain ⟨rfl, rfl, rfl⟩ := h2
  exact h.field hu h1
theorem KV.mk {t : TypeId} {fs : Array Field} {cs : List Value} {m : Nat} (hk : P.keyTypeAt (m + 1) t = true) (hu : P.underlying t = some (.struct fs)) (hl : cs.length = P.cellsOf t) (h : ∀ f ∈ fs.toList, KV P f.type ((cs.drop f.offset).take (P.cellsOf f.type))) : KV P t cs := by
  unfold Program.keyTypeAt at hk
  simp only [hu, Bool.and_eq_true, Bool.not_eq_true'] at hk
  have hall := fun f hf => Array.all_eq_true_iff_forall_mem.1 hk.1.1 f (Array.mem_toList_iff.1 hf)
  obtain ⟨r, hr⟩ := mapM_ex (l := fs.toList) (f := fun f => P.keyLits m f.type ((cs.drop f.offset).take (P.cellsOf f.type))) fun f hf => by
    obtain ⟨D, L, hL⟩ := h f hf
    have := hall f hf
    simp only [Bool.and_eq_true] at this
    exact ⟨L, lits_at m this.2 hL⟩
  refine ⟨m + 1, r.flatten, ?_⟩
  unfold Program.keyLits
  simp only [hu]
  have hh : (fs.all fun x => x.name != "_") = true := by
    rw [Array.all_eq_true_iff_forall_mem]
    intro f hf
    have := hall f (by simpa using hf)
    simp only [Bool.and_eq_true] at this
    exact this.1
  rw [if_pos ⟨hl, hh⟩, hr]; rfl
theorem KV.int {t : TypeId} {k : IntKind} {n : Int} (hu : P.underlying t = some (.int k)) (hw : (Lit.int k n).wf = true) : KV P t [.int k n] := ⟨1, [.int k n], by simp [Program.keyLits, hu, hw]⟩
theorem KV.bool {t : TypeId} {b : Bool} (hu : P.underlying t = some .bool) : KV P t [.bool b] := ⟨1, [.bool b], by simp [Program.keyLits, hu]⟩
theorem KV.int_inv {t : TypeId} {k : IntKind} {cs : List Value} (hu : P.underlying t = some (.int k)) (h : KV P t cs) : ∃ n, cs = [.int k n] ∧ (Lit.int k n).wf = true := by
  obtain ⟨D, L, h⟩ := h
  cases D with
  | zero => simp [Program.keyLits] at h
  | succ D =>
    unfold Program.keyLits at h
    simp only [hu] at h
    split at h <;> simp_all
theorem KV.bool_inv {t : TypeId} {cs : List Value} (hu : P.underlying t = some .bool) (h : KV P t cs) : ∃ b, cs = [.bool b] := by
  obtain ⟨D, L, h⟩ := h
  cases D with
  | zero => simp [Program.keyLits] at h
  | succ D =>
    unfold Program.keyLits at h
    simp only [hu] at h
    split at h <;> simp_all
theorem KV.array {t e : TypeId} {n : Nat} {cs : List Value} {m : Nat} (hk : P.keyTypeAt (m + 1) t = true) (hu : P.underlying t = some (.array n e)) (hl : cs.length = P.cellsOf t) (h : ∀ i, i < n → KV P e ((cs.drop (i * P.cellsOf e)).take (P.cellsOf e))) : KV P t cs := by
  unfold Program.keyTypeAt at hk
  simp only [hu] at hk
  obtain ⟨r, hr⟩ := mapM_ex (l := List.range n) (f := fun i => P.keyLits m e ((cs.drop (i * P.cellsOf e)).take (P.cellsOf e))) fun i hi => by
    obtain ⟨D, L, hL⟩ := h i (List.mem_range.1 hi)
    exact ⟨L, lits_at m hk hL⟩
  refine ⟨m + 1, r.flatten, ?_⟩
  unfold Program.keyLits
  simp only [hu]
  rw [if_pos hl, hr]; rfl
theorem KV.elem {t e : TypeId} {n : Nat} {cs : List Value} (hu : P.underlying t = some (.array n e)) (h : KV P t cs) {i : Nat} (hi : i < n) : cs.length = P.cellsOf t ∧ KV P e ((cs.drop (i * P.cellsOf e)).take (P.cellsOf e)) := by
  obtain ⟨D, L, h⟩ := h
  cases D with
  | zero => simp [Program.keyLits] at h
  | succ D =>
    unfold Program.keyLits at h
    simp only [hu] at h
    split at h
    · rename_i hl
      simp only [Option.map_eq_some_iff] at h
      obtain ⟨as, ha, rfl⟩ := h
      obtain ⟨y, hy⟩ := mapM_of ha i (List.mem_range.2 hi)
      exact ⟨hl, D, y, hy⟩
    · cases h
/-- what is read of an argument of such a type -/
theorem kv_of_trod {H : Type} {enc : TypeId × Value → H} {w : World} {base : Nat} {sp : Nat → Bool} {held : Bool} : ∀ (m : Nat) {t : TypeId} {fuel : Nat} {cs : List Value} {x : DataW H × List MemPlace}, P.keyTypeAt m t = true →
    DataW.trod enc P w base sp held fuel t cs = some x → KV P t cs
  | 0, t, fuel, cs, x, h, _ => by simp [Program.keyTypeAt] at h
  | m + 1, t, 0, cs, x, _, h => by simp [DataW.trod] at h
  | m + 1, t, fuel + 1, cs, x, hk, h => by
    have hk0 := hk
    unfold Program.keyTypeAt at hk
    unfold DataW.trod at h
    cases hu : P.underlying t with
    | none => simp [hu] at hk
    | some kd =>
      cases kd <;> simp only [hu, Bool.false_eq_true] at hk h
      case bool =>
        split at h <;> first | (rename_i e1; cases e1; done) | skip
        all_goals first | (cases h; done) | skip
        all_goals simp_all
        all_goals first | exact KV.bool hu | skip
      case int q =>
        split at h <;> try (first | (simp_all; done))
        rename_i k' k n e
        split at h
        · rename_i hq
          obtain ⟨rfl, hw⟩ := hq
          simp_all
          exact KV.int hu hw
        · cases h
      case string =>
        split at h <;> try (first | (simp_all; done))
        rename_i s _
        split at h
        · rename_i hs
          exact ⟨1, [.string s.data.toList], by simp [Program.keyLits, hu, hs]⟩
        · cases h
      case array n e =>
        split at h
        · rename_i hl
          simp only [Option.map_eq_some_iff] at h
          obtain ⟨as, ha, rfl⟩ := h
          refine KV.array hk0 hu hl fun i hi => ?_
          obtain ⟨y, hy⟩ := mapM_of ha i (List.mem_range.2 hi)
          exact kv_of_trod m hk hy
        · cases h
      case struct fs =>
        split at h
        · rename_i hl
          simp only [Option.map_eq_some_iff] at h
          obtain ⟨as, ha, rfl⟩ := h
          refine KV.mk hk0 hu hl fun f hf => ?_
          obtain ⟨y, hy⟩ := mapM_of ha f hf
          simp only [Bool.and_eq_true] at hk
          have := Array.all_eq_true_iff_forall_mem.1 hk.1.1 f (Array.mem_toList_iff.1 hf)
          simp only [Bool.and_eq_true] at this
          exact kv_of_trod m this.2 hy
        · cases h

/-! comparing -/
def wideB (P : Program) (t : TypeId) : Bool := match P.underlying t with | some (.array _ _) | some (.struct _) => true | _ => false
def flatB (P : Program) (t : TypeId) : Bool := P.keyTypeAt 10 t && P.tiled 10 t && wideB P t && P.keyType t && !P.eqGuardType P.depth t
theorem flatB_law {t : TypeId} (h : flatB P t = true) : WideMaps.KeyLaw P t := by
  simp only [flatB, Bool.and_eq_true] at h
  exact deep_law (m := 10) (by decide) h.1.1.1.1 h.1.1.1.2 h.1.1.2
theorem KV.key {t : TypeId} {cs : List Value} (hf : flatB P t = true) (h : KV P t cs) : ∃ l, keyOf P t (.agg cs.toArray) = some l := by
  simp only [flatB, Bool.and_eq_true] at hf
  obtain ⟨D, L, hL⟩ := h
  have h1 := lits_at _ (show P.keyTypeAt (P.types.size + 1) t = true from hf.1.2) hL
  have hw : wideB P t = true := hf.1.1.2
  unfold wideB at hw
  unfold keyOf
  have hform : (Value.agg cs.toArray).formed P t = true := by
    cases D with
    | zero => simp [Program.keyLits] at hL
    | succ D =>
      unfold Program.keyLits at hL
      split at hw <;> first | (cases hw; done) | skip
      all_goals (rename_i hu; simp only [hu] at hL; split at hL <;> first | (cases hL; done) | skip)
      all_goals (rename_i hl; simp [Value.formed, hu, hl])
  split
  · rw [hf.1.2, hform]; simp [Value.cells, h1]
  · rw [hf.1.2, hform]; simp [Value.cells, h1]
  · split at hw <;> simp_all
open Classical in
theorem run_eq_flat (w : World) {t : TypeId} {xs ys : List Value} (hf : flatB P t = true) (hx : KV P t xs) (hy : KV P t ys) : (Op.equal t (.agg xs.toArray) (.agg ys.toArray)).run P w = .ok (decide (xs = ys)) w := by
  obtain ⟨lx, h1⟩ := hx.key hf
  obtain ⟨ly, h2⟩ := hy.key hf
  have hl := flatB_law hf
  simp only [flatB, Bool.and_eq_true] at hf
  obtain ⟨r, hr, hiff⟩ := run_equal_deep w (m := 10) (by decide) hf.1.1.1.1 hf.1.1.2 h1 h2
  rw [hr]
  congr 1
  rw [Bool.eq_iff_iff, hiff, decide_eq_true_iff]
  constructor
  · rintro rfl
    simpa using hl.inj h1 h2
  · rintro rfl
    rw [h1] at h2; exact Option.some.inj h2
end

section
variable {P : Program} {n : Nat} {E : Env} {d : Nat} {ty : TypeId} {pos : String} {aft : Array Edge}
open Classical in
theorem y_eqlA {x y : Operand} {xs ys : List Value} {t yt : TypeId} (hx : eev E x = some (.agg xs.toArray)) (hy : eev E y = some (.agg ys.toArray)) (hf : flatB P t = true) (h1 : KV P t xs) (h2 : KV P t ys) :
    Yld P n ⟨some d, .binOp .eql t x y yt, ty, pos, aft, none⟩ E (.bool (decide (xs = ys))) := ⟨fun a w ha => by
  have hg : P.eqGuardType P.depth t = false := by simp only [flatB, Bool.and_eq_true, Bool.not_eq_true'] at hf; exact hf.2
  have := run_eq_flat w hf h1 h2
  simp only [execOp, ha.ev hx, ha.ev hy, Sem.run_bind, run_eqGuard_agg w _ _ _ _ _ _ hg, Result.andThen_ok, binOp, this]; rfl⟩
open Classical in
theorem y_neqA {x y : Operand} {xs ys : List Value} {t yt : TypeId} (hx : eev E x = some (.agg xs.toArray)) (hy : eev E y = some (.agg ys.toArray)) (hf : flatB P t = true) (h1 : KV P t xs) (h2 : KV P t ys) :
    Yld P n ⟨some d, .binOp .neq t x y yt, ty, pos, aft, none⟩ E (.bool (decide (xs ≠ ys))) := ⟨fun a w ha => by
  have hg : P.eqGuardType P.depth t = false := by simp only [flatB, Bool.and_eq_true, Bool.not_eq_true'] at hf; exact hf.2
  have := run_eq_flat w hf h1 h2
  simp only [execOp, ha.ev hx, ha.ev hy, Sem.run_bind, run_eqGuard_agg w _ _ _ _ _ _ hg, Result.andThen_ok, binOp, this]
  simp⟩
end
end Go.Proofs.YtkjpemkankefnaaDoor
