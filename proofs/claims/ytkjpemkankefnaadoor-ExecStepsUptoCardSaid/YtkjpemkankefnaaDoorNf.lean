/-
  THE SECOND ENGINE, sixth part: kinds of goals; contracts; bytes. 
-/
import Derived.Test.YtkjpemkankefnaaDoorNe
import Derived.Test.YtkjpemkankefnaaDoorProg
set_option linter.unusedVariables false
namespace Go.Proofs.YtkjpemkankefnaaDoor
open Go.RowKit

section
variable {P : Program} {n : Nat} {w0 : World} {X : Nat → Prop} {Q : Cont} {E : Env} {L L' : List Assn} {s : Ms} {ops : Array Oper} {l : List Oper} {c : Code} {id : Nat}
theorem kO (h : GO P n w0 X s ops l Q E L) : GO P n w0 X s ops l Q E L := h
theorem kC (h : GC P n w0 X c Q E L) : GC P n w0 X c Q E L := h
theorem kN (h : GN P n w0 X Q E L) : GN P n w0 X Q E L := h
theorem kX (h : GX P n w0 X id Q E L) : GX P n w0 X id Q E L := h
theorem kJ (h : GJ P n w0 X id Q E L) : GJ P n w0 X id Q E L := h
theorem kR (h : GR P n w0 X Q E L) : GR P n w0 X Q E L := h
theorem kK {d : Option Tmp} {o : Operand} {xs : Array Operand} {ats : Array TypeId} {ty : TypeId} {pos : String} {aft : Array Edge} (h : GO P n w0 X s ops (⟨d, .call ⟨.value o, xs, ats⟩, ty, pos, aft, none⟩ :: l) Q E L) : GO P n w0 X s ops (⟨d, .call ⟨.value o, xs, ats⟩, ty, pos, aft, none⟩ :: l) Q E L := h
theorem kD (h : Dm w0 X ops s L) : Dm w0 X ops s L := h
theorem kg {o : Op} {ty : TypeId} {pos : String} {aft : Array Edge} {d : Option Tmp} {g : Nat × Bool} (h : GO P n w0 X s ops (⟨d, o, ty, pos, aft, some g⟩ :: l) Q E L) : GO P n w0 X s ops (⟨d, o, ty, pos, aft, some g⟩ :: l) Q E L := h
end
section
variable {P : Program} {w0 : World} {X : Nat → Prop} {E : Env} {L L' M : List Assn} {rs : List ResultVar} {vs : List Value} {v : Value}
theorem kV (h : RV P w0 X E L rs vs) : RV P w0 X E L rs vs := h
theorem kE (h : resVal vs = v) : resVal vs = v := h
theorem kL (h : Ent L M) : Ent L M := h
theorem er {G : Type} {s : Sv} {n : Nat} {e : TypeId} {R : Rep G} {gs : List G} [h : FRow L s n e R gs] [h' : Pk L (rw_ e R s n gs) L'] (k : Ent L' M) : Ent L (rw_ e R s n gs :: M) := Ent.cons (h' := k)
theorem er0 {G : Type} {e : TypeId} {R : Rep G} (k : Ent L M) : Ent L (rw_ e R ⟨none, 0⟩ 0 [] :: M) := ⟨fun w0 X w h => by
  have h1 := nil_row (k.go _ _ _ h) e R
  exact h1⟩
theorem eb {g : Nat} {t : TypeId} {cs : List Cs} [h : FBox L g t cs] [h' : Pk L (boxA g t cs) L'] (k : Ent L' M) : Ent L (boxA g t cs :: M) := Ent.cons (h' := k)
end
/-- a row that is answered -/
structure Br (G : Type) where
  s : Sv
  n : Nat
  gs : List G
abbrev Br.v {G : Type} (r : Br G) : Value := .slice r.s.A r.n r.s.c
def okA (L : List Assn) : Prop := ∃ w0 X w, St w0 X L w
theorem okA.row {G : Type} {L : List Assn} {e : TypeId} {R : Rep G} {s : Sv} {n : Nat} {gs : List G} (h : okA (rw_ e R s n gs :: L)) : n = gs.length := by
  obtain ⟨w0, X, w, h⟩ := h
  obtain ⟨k, hk, _⟩ := h.get (i := 0) rfl
  exact hk.len.symm
theorem okA.some {G : Type} {L : List Assn} {e : TypeId} {R : Rep G} {s : Sv} {n : Nat} {gs : List G} (h : okA (rw_ e R s n gs :: L)) (hn : 0 < n) : s.A.isNone = false := by
  obtain ⟨w0, X, w, h⟩ := h
  obtain ⟨k, hk, _⟩ := h.get (i := 0) rfl
  rcases hk.at_ with ⟨_, h0⟩ | ⟨g, ys, rfl, _⟩
  · omega
  · rfl
theorem okA.tail {L : List Assn} {A : Assn} (h : okA (A :: L)) : okA L := by
  obtain ⟨w0, X, w, h⟩ := h
  exact ⟨w0, X, w, h.tail⟩
theorem Ct.to {P : Program} {f : FuncId} {vs : List Value} {w : World} {X : Nat → Prop} {ρ ρ' : Type} {val : ρ → Value} {val' : ρ' → Value} {M : ρ → List Assn} {M' : ρ' → List Assn} {φ : ρ → Prop} {φ' : ρ' → Prop} (h : Ct P f vs w X val M φ) (hf : ∀ r, φ r → okA (M r) → ∃ r', val r = val' r' ∧ M r = M' r' ∧ φ' r') : Ct P f vs w X val' M' φ' :=
  h.mono fun e w' ⟨r, he, hs, hφ⟩ => by
    obtain ⟨r', h1, h2, h3⟩ := hf r hφ ⟨_, _, _, hs⟩
    exact ⟨r', by rw [he, h1], by rw [← h2]; exact hs, h3⟩
theorem ctr' {P : Program} {f : FuncId} {vs : List Value} {w0 : World} {X : Nat → Prop} {L : List Assn} {pre : Prop} {ρ ρ' : Type} {val : ρ → Value} {M : ρ → List Assn} {φ : ρ → Prop} {val' : ρ' → Value} {M' : ρ' → List Assn} {φ' : ρ' → Prop} (ok : callB P f = true) (h : pre → ∀ w, St w0 X L w → Ct P f vs w no val M φ) (hf : pre → ∀ r, φ r → okA (M r) → ∃ r', val r = val' r' ∧ M r = M' r' ∧ φ' r') : Ctr P f vs w0 X L pre val' (fun r => M' r ++ L) φ' :=
  ctr ok fun hp w hw => (h hp w hw).to (hf hp)

/-! two that may come next: both ways -/
structure GF (P : Program) (n : Nat) (w0 : World) (X : Nat → Prop) (ops : Array Oper) (i : Nat) (q1 : List Nat) (j : Nat) (q2 : List Nat) (D : Pledges) (r : List Nat) (Q : Cont) (E : Env) (L : List Assn) : Prop where
  go : ∀ w, St w0 X L w → TF P n ops i q1 j q2 D r Q E w
section
variable {P : Program} {n : Nat} {w0 : World} {X : Nat → Prop} {Q : Cont} {E : Env} {L : List Assn} {ops : Array Oper} {i j x : Nat} {q1 q2 r : List Nat} {D : Pledges}
variable {d : Nat} {ty : TypeId} {pos : String} {aft : Array Edge} {op : Op} {v : Value}
theorem kF (h : GF P n w0 X ops i q1 j q2 D r Q E L) : GF P n w0 X ops i q1 j q2 D r Q E L := h
theorem gfork {id : Nat} (p : List Nat) (i : Nat) (q1 : List Nat) (j : Nat) (q2 : List Nat) (hm : P.follows .mixedOrders = true) (hok : drawFB ops p i q1 j q2 = true) (h : GF P n w0 X ops i q1 j q2 [] p Q E L) : GC P n w0 X (.region id ops true) Q E L :=
  ⟨fun w hw => t_fork p i q1 j q2 hm hok hw fun w hw => h.go w hw⟩
theorem gFv (ho : nthO ops.toList x = some ⟨some d, op, ty, pos, aft, none⟩) (h : pv P E op = some v) (hd : Nat.blt d n = true) (k : GF P n w0 X ops i q1 j q2 D r Q ((d, v) :: E) L) : GF P n w0 X ops i q1 j q2 D (x :: r) Q E L :=
  ⟨fun w hw => tf_yld ho (by
    unfold lightAt; rw [← Array.getElem?_toList, ← nthO_eq, ho]; exact pv_light h) (pv_ok h) hd (k.go w hw)⟩
theorem gFf {y : Operand} {t f off : Nat} {p : Addr} (ho : nthO ops.toList x = some ⟨some d, .fieldAddr t y f, ty, pos, aft, none⟩) (hx : eev E y = some (.pointer (some p))) (hf : fldB P t f = some off) (hd : Nat.blt d n = true) (k : GF P n w0 X ops i q1 j q2 D r Q ((d, .pointer (some (p.add off))) :: E) L) : GF P n w0 X ops i q1 j q2 D (x :: r) Q E L :=
  ⟨fun w hw => tf_yld ho (by
    unfold lightAt; rw [← Array.getElem?_toList, ← nthO_eq, ho]; rfl) (y_field hx hf) hd (k.go w hw)⟩
theorem gFl {y : Operand} {t : TypeId} {p : Addr} {u : Value} (ho : nthO ops.toList x = some ⟨some d, .load t y, ty, pos, aft, none⟩) (hx : eev E y = some (.pointer (some p))) (hl : Lv P w0 X L t p u) (hd : Nat.blt d n = true)
    (k : GF P n w0 X ops i q1 j q2 ((x, fun w => (loadVar t p).run P w = .ok u w) :: D) r Q ((d, u) :: E) L) : GF P n w0 X ops i q1 j q2 D (x :: r) Q E L :=
  ⟨fun w hw => ⟨fun a ha => ⟨_, by rw [← Array.getElem?_toList, ← nthO_eq]; exact ho, by
    have hli : lightAt ops x = true := by unfold lightAt; rw [← Array.getElem?_toList, ← nthO_eq, ho]; rfl
    unfold StepO
    rw [if_pos hli]
    exact ⟨u, .inr ⟨fun w => (loadVar t p).run P w = .ok u w, hl w hw, yif_none rfl fun w hw' => by simp [execOp, ha.ev hx, Instr.loadAt, Instr.sureAddr, hw'], (k.go w hw).go _ (ha.put hd u)⟩⟩⟩⟩⟩
theorem gFn {l : List Oper} {l1 l2 : List Oper} (hl : ops.toList = l) (h1 : ordL l (i :: q1) = some l1) (h2 : ordL l (j :: q2) = some l2) (k1 : GO P n w0 X (some (i :: q1, D)) ops l1 Q E L) (k2 : GO P n w0 X (some (j :: q2, D)) ops l2 Q E L) : GF P n w0 X ops i q1 j q2 D [] Q E L :=
  ⟨fun w hw => tf_nil (k1.tw (by rw [hl]; exact ordL_ph h1) w hw) (k2.tw (by rw [hl]; exact ordL_ph h2) w hw)⟩
end
/-! bytes -/
abbrev by_ (x : UInt8) : Value := .int .u8 (x.toNat : Int)
def RB : Rep UInt8 := ⟨1, fun x => [.one (by_ x)], by decide, fun _ => ⟨trivial, rfl, rfl⟩⟩
instance : SzIs RB 1 := ⟨rfl⟩
instance {x : UInt8} : Elm RB (.int .u8 (x.toNat : Int)) x := ⟨rfl⟩
theorem u8_cast (x : UInt8) : u8 (x.toNat : Int) = x := by
  apply UInt8.toNat_inj.1
  have h := x.toNat_lt
  simp only [u8, UInt8.toNat_ofNat']
  omega
def bysOf : List (Nat × Value) → Nat → Option (List UInt8 × Prop)
  | [], _ => some ([], True)
  | (j, .int .u8 z) :: r, i => bif Nat.beq j i then (match bysOf r (i + 1) with | some (gs, p) => some (u8 z :: gs, (0 ≤ z ∧ z ≤ 255) ∧ p) | none => none) else none
  | _, _ => none
theorem bysOf_ok : ∀ {ps : List (Nat × Value)} {i : Nat} {gs : List UInt8} {p : Prop}, bysOf ps i = some (gs, p) → p → Elms RB i ps gs
  | [], i, gs, p, h, _ => by simp only [bysOf, Option.some.injEq, Prod.mk.injEq] at h; obtain ⟨rfl, _⟩ := h; exact Elms.nil
  | (j, v) :: r, i, gs, p, h, hp => by
    cases v with
    | int k z => ?_
    | _ => simp only [bysOf] at h; cases h
    cases k with
    | u8 => ?_
    | _ => simp only [bysOf] at h; cases h
    simp only [bysOf] at h
    cases hb : Nat.beq j i <;> rw [hb] at h
    · simp at h
    · have hj := beqT hb
      subst hj
      simp only [cond_true] at h
      split at h
      · rename_i gs' p' h'
        cases h
        have hz : ((u8 z).toNat : Int) = z := by rw [← u8_wrap, IntKind.wrap_u8]; omega
        have h1 : Elm RB (.int .u8 z) (u8 z) := ⟨by show [by_ (u8 z)] ++ [] = _; unfold by_; rw [hz]; rfl⟩
        have h2 := bysOf_ok h' hp.2
        exact Elms.cons
      · cases h
section
variable {P : Program} {n : Nat} {w0 : World} {X : Nat → Prop} {Q : Cont} {E : Env} {L : List Assn} {s : Ms} {ops : Array Oper} {rest : List Oper}
variable {d : Nat} {ty : TypeId} {pos : String} {aft : Array Edge}
theorem gbb {t e : TypeId} {len bytes : Nat} {parts : List (Nat × Operand)} {ps : List (Nat × Value)} {gs : List UInt8} {p : Prop} (ht : P.underlying t = some (.slice e)) [hE : EL P e 1 bytes] (hp : evps E parts = some ps) (hq : bysOf ps 0 = some (gs, p)) (hpp : p) (hn : gs.length = len) (hlen : Nat.ble (len * 1) 1000000 = true) (hpos : Nat.beq len 0 = false) (hd : Nat.blt d n = true)
    (hD : ∀ s' : Sv, Dm w0 X ops s (rw_ e RB s' len gs :: L)) (kk : ∀ s' : Sv, GO P n w0 X (nextM s) ops rest Q ((d, .slice s'.A len s'.c) :: E) (rw_ e RB s' len gs :: L)) :
    GO P n w0 X s ops (⟨some d, .buildSlice t len parts.toArray, ty, pos, aft, none⟩ :: rest) Q E L := by
  have hq' := bysOf_ok hq hpp
  exact gbs RB ht hp hn hlen hpos hd hD kk
end
instance : EL Tryd.prog 5 1 1 := ⟨by
  obtain ⟨i, h1, h2, h3, h4⟩ := info_parts (show (Tryd.prog.info? 5).map (fun i => (i.zero, i.size, i.bytes)) = some (some (.int .u8 0), 1, 1) by kernel_rfl)
  exact ⟨i, _, h1, h2, h3, h4, rfl, by decide⟩⟩
instance : ZE Tryd.prog 5 RB 0 := ⟨by kernel_rfl, by kernel_rfl⟩
/-- a row of bytes of the call's own -/
abbrev rb (s : Sv) (n : Nat) (l : List UInt8) : Assn := rw_ 5 RB s n l
/-- bytes that can be read -/
abbrev Sb (w : World) (v : Value) (l : List UInt8) : Prop := Slr w RB v l
end Go.Proofs.YtkjpemkankefnaaDoor
