/-
  THE SECOND ENGINE, ninth part: cuts of rows of the call's own; rows of rows. No program in sight.
-/
import Derived.Test.YtkjpemkankefnaaDoorNh
set_option linter.all false
set_option maxRecDepth 100000
namespace Go.Proofs.YtkjpemkankefnaaDoor
open Go.RowKit

/-! cuts of nil, of rows of the call's own -/
section
variable {P : Program} {n : Nat} {w0 : World} {X : Nat → Prop} {Q : Cont} {E : Env} {L L' : List Assn} {s : Ms} {ops : Array Oper} {rest : List Oper} {v : Value}
variable {d : Nat} {ty : TypeId} {pos : String} {aft : Array Edge} {op : Op} {G : Type} {R : Rep G} {gs : List G}
theorem gcn {x hi : Operand} {kh : IntKind} {t e : TypeId} {sz : Nat} (hx : eev E x = some (.slice none 0 0)) (hh : eev E hi = some (.int kh 0)) (ht : P.underlying t = some (.slice e)) (hz : szB P e = some sz) (hd : Nat.blt d n = true)
    (kk : GO P n w0 X (nextM s) ops rest Q ((d, .slice none 0 0) :: E) L) : GO P n w0 X s ops (⟨some d, .slice t x none (some hi) none, ty, pos, aft, none⟩ :: rest) Q E L :=
  go_yld rfl (fun _ _ => by simpa using y_cut_h (P := P) (n := n) (d := d) (ty := ty) (pos := pos) (aft := aft) hx hh ht hz (Int.le_refl 0) (Int.le_refl 0)) hd kk
theorem row_take {e : TypeId} {sv : Sv} {m k : Nat} {h : Hp} (hk : k ≤ m) (hr : rw_ e R sv m gs h) : rw_ e R sv k (gs.take k) h := by
  obtain ⟨hl, ⟨rfl, rfl⟩ | ⟨g, ys, rfl, hm, rfl⟩⟩ := hr
  · obtain rfl : k = 0 := by omega
    exact ⟨by simp, .inl ⟨rfl, rfl⟩⟩
  · refine ⟨by simp; omega, .inr ⟨g, gs.drop k ++ ys, ?_, ?_, ?_⟩⟩
    · simp; omega
    · simp; omega
    · rw [← List.append_assoc, List.take_append_drop]
theorem go_mono (hm : ∀ w, St w0 X L w → St w0 X L' w) {l : List Oper} (h : GO P n w0 X s ops l Q E L') : GO P n w0 X s ops l Q E L := by
  cases s with
  | none => exact ⟨fun w hw => h.go w (hm w hw)⟩
  | some p =>
    obtain ⟨r, D⟩ := p
    cases r with
    | nil => cases l with
      | nil => exact ⟨fun w hw => h.go w (hm w hw)⟩
      | cons o l => exact ⟨trivial⟩
    | cons i r => cases l with
      | nil => exact ⟨trivial⟩
      | cons o l => exact ⟨fun hh ph w hw => h.go hh ph w (hm w hw)⟩
theorem UpdF.mono {A A' : Assn} {F : Assn → List Assn} [hF : UpdF L A F] (hm : ∀ h, A h → A' h) (w : World) (hw : St w0 X L w) : St w0 X (F A') w := hF.st fun i hi => by
  have h0 := hw.front' hi
  obtain ⟨hp, ⟨a1, a2, a3, a4, a5, a6⟩, hs, hX⟩ := h0.res
  exact ⟨h0.os, h0.tape, h0.output, h0.size, h0.keep, hp, ⟨a1, a2, a3, a4, hm _ a5, a6⟩, hs, hX⟩
/-- the head of a row of the call's own -/
theorem gcr {x hi : Operand} {kh : IntKind} {h : Int} {t e : TypeId} {m sz : Nat} {sv : Sv} {F : Assn → List Assn} (hx : eev E x = some (.slice sv.A m sv.c)) (hh : eev E hi = some (.int kh h)) (ht : P.underlying t = some (.slice e)) [hr : FRow L sv m e R gs] [hs : SzIs R sz] (hz : szB P e = some sz) [hF : UpdF L (rw_ e R sv m gs) F] (hb : 0 ≤ h ∧ h ≤ m) (hd : Nat.blt d n = true)
    (kk : GO P n w0 X (nextM s) ops rest Q ((d, .slice sv.A h.toNat sv.c) :: E) (F (rw_ e R sv h.toNat (gs.take h.toNat)))) : GO P n w0 X s ops (⟨some d, .slice t x none (some hi) none, ty, pos, aft, none⟩ :: rest) Q E L := by
  refine go_with fun w hw => ?_
  have hc := (Rw.of_row (w0 := w0) (X := X) hr.get).cap hw
  refine go_yld (v := .slice sv.A h.toNat sv.c) rfl (fun _ _ => ?_) hd ?_
  · have := y_cut_h (P := P) (n := n) (d := d) (ty := ty) (pos := pos) (aft := aft) hx hh ht hz hb.1 (by omega)
    have e1 : (if sv.c = 0 then sv.A else sv.A.map (·.add (0 * sz))) = sv.A := by
      split
      · rfl
      · cases sv.A <;> simp [Addr.add_zero']
    rw [e1] at this
    simpa using this
  · exact go_mono (fun w hw => UpdF.mono (F := F) (A := rw_ e R sv m gs) (A' := rw_ e R sv h.toNat (gs.take h.toNat)) (fun k hk => row_take (by omega) hk) w hw) kk
/-- so many zero elements, onto nil -/
theorem ganz {sx x : Operand} {t tn e : TypeId} {sz bytes : Nat} {i : Int} {kq kn : IntKind} {g0 : G} (hs : eev E sx = some (.slice none 0 0)) (hx : eev E x = some (.int kq i)) (ht : P.underlying t = some (.slice e)) (htn : P.underlying tn = some (.int kn)) [hE : EL P e sz bytes] [hz0 : ZE P e R g0] [hz : SzIs R sz]
    (hb : 0 ≤ i ∧ i.toNat * bytes ≤ 140737488355328 ∧ i.toNat ≤ 9223372036854775807) (hd : Nat.blt d n = true) (hD : ∀ s' : Sv, Dm w0 X ops s (rw_ e R s' i.toNat (List.replicate i.toNat g0) :: L))
    (kk : ∀ s' : Sv, GO P n w0 X (nextM s) ops rest Q ((d, .slice s'.A i.toNat s'.c) :: E) (rw_ e R s' i.toNat (List.replicate i.toNat g0) :: L)) :
    GO P n w0 X s ops (⟨some d, .call { callee := .builtin .append, args := #[sx, x], argTypes := #[t, tn] }, ty, pos, aft, none⟩ :: rest) Q E L := by
  refine go_hv (ρ := Sv) (φ := fun _ => True) rfl (fun w hw rest Q k' => ?_) (fun s' _ => hD s') (fun s' _ => kk s')
  obtain ⟨info, z, hinf, hzi, hsz, hby, hzc⟩ := hz0.info hE
  have ei : (i.toNat : Int) = i := by omega
  obtain ⟨s', w', hrun, hst⟩ := row_app (ty := ty) (i := 0) (sv := ⟨none, 0⟩) (m := 0) (gs := []) rfl (by simp) hzc (appR_zeros (kq := kq) (k := i.toNat) ht htn hinf hzi hsz hby hzc hb.2.1 (by omega)) (by rw [Nat.zero_add]; exact hb.2.1) (by have h3 := hb.2.2; simp only [maxLen, Nat.zero_add]; exact h3) (nil_row hw e R)
  have hrun' : (Builtin.append_ #[t, tn] ty #[.slice none 0 0, .int kq i]).run P w = .ok (.slice s'.A i.toNat s'.c) w' := by
    rw [ei] at hrun; simpa only [sl, Nat.zero_add] using hrun
  refine tl_run (fun a ha => by
    simp only [execOp, resolve, invoke, builtin, Sem.run_bind, Sem.run_pure, Result.andThen_ok, List.map_toArray, List.map_cons, List.map_nil, ha.ev hs, ha.ev hx, hrun']) hd (k' s' w' trivial ?_)
  simpa using hst
end
section
variable {P : Program} {n : Nat} {w0 : World} {X : Nat → Prop} {Q : Cont} {E : Env} {L L' : List Assn} {s : Ms} {ops : Array Oper} {rest : List Oper} {v : Value}
variable {d : Nat} {ty : TypeId} {pos : String} {aft : Array Edge} {G : Type}
theorem y_cut_hm {x hi mx : Operand} {A : Option Addr} {len cap sz : Nat} {kh km : IntKind} {h m : Int} {t e : TypeId} (hx : eev E x = some (.slice A len cap)) (hh : eev E hi = some (.int kh h)) (hm : eev E mx = some (.int km m)) (ht : P.underlying t = some (.slice e)) (hz : szB P e = some sz) (h0 : 0 ≤ h) (h2 : h ≤ m) (h3 : m ≤ cap) :
    Yld P n ⟨some d, .slice t x none (some hi) (some mx), ty, pos, aft, none⟩ E (.slice (if m.toNat = 0 then A else A.map (·.add (0 * sz))) (h.toNat - 0) (m.toNat - 0)) := ⟨fun a w ha => by
  have e1 : (h : Int) ≤ m.toNat := by omega
  simp [execOp, ha.ev hx, ha.ev hh, ha.ev hm, Instr.sliceAt, Instr.slice, Instr.sliceBounds, run_underlying ht, run_sizeOf hz, run_bound (show 0 ≤ m by omega) h3, run_bound h0 e1]⟩
theorem gchm {x hi mx : Operand} {A : Option Addr} {m c sz : Nat} {kh km : IntKind} {h mm : Int} {t e : TypeId} {R : Rep G} {gs : List G} (hx : eev E x = some (.slice A m c)) (hh : eev E hi = some (.int kh h)) (hm : eev E mx = some (.int km mm)) (ht : P.underlying t = some (.slice e)) (hz : szB P e = some sz) [hR : Rw w0 X L (.slice A m c) R gs] (hb : 0 ≤ h ∧ h ≤ m ∧ h ≤ mm ∧ mm ≤ m) (hd : Nat.blt d n = true)
    (kk : Cu 0 h.toNat m c mm.toNat mm.toNat → GO P n w0 X (nextM s) ops rest Q ((d, .slice (cutA A m c mm.toNat sz 0) h.toNat mm.toNat) :: E) L) : GO P n w0 X s ops (⟨some d, .slice t x none (some hi) (some mx), ty, pos, aft, none⟩ :: rest) Q E L :=
  go_with fun w hw => by
    have hc := hR.cap hw
    refine go_yld rfl (fun _ _ => ?_) hd (kk ⟨by omega⟩)
    have := y_cut_hm (P := P) (n := n) (d := d) (ty := ty) (pos := pos) (aft := aft) hx hh hm ht hz hb.1 hb.2.2.1 (by omega)
    unfold cutA; simpa using this
/-- shifted, whatever its sign; shifted out -/
def pss (E : Env) : Op → Option (Value × Prop)
  | .binOp .shr _ x y _ => match eev E x, eev E y with
    | some (.int k i), some (.int _ j) => some (.int k (i / 2 ^ j.toNat), InSh k j)
    | _, _ => none
  | .binOp .shl _ x y _ => match eev E x, eev E y with
    | some (.int k i), some (.int _ j) => some (.int k (k.wrap (i * 2 ^ j.toNat)), InSh k j)
    | _, _ => none
  | _ => none
theorem pss_light {op : Op} {φ : Prop} (h : pss E op = some (v, φ)) : isLight op = true := by
  unfold pss at h
  split at h <;> first | rfl | cases h
theorem pss_ok {op : Op} {φ : Prop} (h : pss E op = some (v, φ)) (hφ : φ) : Yld P n ⟨some d, op, ty, pos, aft, none⟩ E v := by
  unfold pss at h
  split at h
  · split at h <;> cases h
    rename_i hx hy
    have h1 := hφ
    refine y_shr hx hy h1.min.1 ?_
    rw [h1.min.2, Int.fdiv_eq_ediv_of_nonneg _ (by exact_mod_cast Nat.zero_le _)]
  · split at h <;> cases h
    rename_i hx hy
    have h1 := hφ
    refine y_shl hx hy h1.min.1 ?_
    rw [h1.min.2]
  · cases h
theorem gss {op : Op} {φ : Prop} (h : pss E op = some (v, φ)) (hφ : φ) (hd : Nat.blt d n = true) (k : GO P n w0 X (nextM s) ops rest Q ((d, v) :: E) L) : GO P n w0 X s ops (⟨some d, op, ty, pos, aft, none⟩ :: rest) Q E L := go_yld (pss_light h) (fun _ _ => pss_ok h hφ) hd k
/-- a literal without elements: not nil -/
theorem gbe {t e : TypeId} {sz bytes : Nat} (R : Rep G) (ht : P.underlying t = some (.slice e)) [hE : EL P e sz bytes] [hs : SzIs R sz] (hd : Nat.blt d n = true)
    (hD : ∀ s' : Sv, s'.A.isNone = false → Dm w0 X ops s (rw_ e R s' 0 [] :: L)) (kk : ∀ s' : Sv, s'.A.isNone = false → GO P n w0 X (nextM s) ops rest Q ((d, .slice s'.A 0 s'.c) :: E) (rw_ e R s' 0 [] :: L)) :
    GO P n w0 X s ops (⟨some d, .buildSlice t 0 #[], ty, pos, aft, none⟩ :: rest) Q E L := by
  refine go_hv (ρ := Sv) (φ := fun s' => s'.A.isNone = false) rfl (fun w hw rest Q k' => ?_) (fun s' h => hD s' h) (fun s' h => kk s' h)
  obtain ⟨info, z, hinf, hzi, hsz, hby, hzs, hpos'⟩ := hE.h
  have hsR := hs.h
  subst hsR
  have hsB : (sizeOf e).run P w = .ok R.sz w := by simp [sizeOf, typeInfo, hinf, hsz]
  refine tl_run (w' := w.alloc (.cells (R.all []).toArray e)) (fun a ha => ?_) hd (k' ⟨some ⟨w.heap.size, 0, none⟩, 0⟩ _ rfl ?_)
  · simp only [execOp, Instr.buildSlice, Sem.run_bind, run_underlying ht, Result.andThen_ok, hsB]
    have e0 : (Array.range 0) = #[] := rfl
    simp [newRow, Rep.all, e0, Instr.fill, newObj]
    rfl
  · refine hw.grow rfl rfl rfl (by simp) (fun b hb => Below.heap_alloc w _ b hb) ⟨hone w.heap.size _, ⟨rfl, .inr ⟨w.heap.size, [], rfl, by simp only [List.length_nil, maxLen]; omega, rfl⟩⟩, ?_, fun b hb => by rw [hone_ne hb]; exact Nat.le_refl _⟩
    rw [List.append_nil]; exact Sub.of_one (heap_alloc_new w _)
end
theorem Slr.isNone {w : World} {G : Type} {R : Rep G} {A : Option Addr} {n c : Nat} {gs : List G} (h : Slr w R (.slice A n c) gs) (h0 : A.isNone = true) : gs = [] := by
  obtain ⟨a, c', e1, e2, e3, e4, e5⟩ := h
  cases e1
  cases gs with
  | nil => rfl
  | cons g gs =>
    have := R.pos
    obtain ⟨b, o, rfl, _⟩ := e5 (by rw [Rep.len, List.length_cons, Nat.succ_mul]; omega)
    cases h0
/-! rows of rows -/
abbrev BsG := Sv × List UInt8
def RBs : Rep BsG := ⟨1, fun x => [.one (.slice x.1.A x.2.length x.1.c)], by decide, fun _ => ⟨trivial, rfl, rfl⟩⟩
instance : SzIs RBs 1 := ⟨rfl⟩
instance {s : Sv} {l : List UInt8} : Elm RBs (.slice s.A l.length s.c) (s, l) := ⟨rfl⟩
def BsP (w : World) (gs : List BsG) : Prop := ∀ x ∈ gs, Sb w (.slice x.1.A x.2.length x.1.c) x.2
class BsR (w0 : World) (X : Nat → Prop) (L : List Assn) (gs : List BsG) : Prop where
  get : ∀ w, St w0 X L w → BsP w gs
theorem BsR.old {w0 : World} {gs : List BsG} (h : BsP w0 gs) (L : List Assn) : BsR w0 no L gs := ⟨fun w hst o ho => hst.sl (h o ho)⟩
instance BsR.nil {w0 : World} {X : Nat → Prop} {L : List Assn} : BsR w0 X L [] := ⟨fun _ _ _ h => by cases h⟩
instance BsR.cons {w0 : World} {X : Nat → Prop} {L : List Assn} {s : Sv} {l : List UInt8} {gs : List BsG} [h : Rw w0 X L (.slice s.A l.length s.c) RB l] [h' : BsR w0 X L gs] : BsR w0 X L ((s, l) :: gs) := ⟨fun w hw x hx => by
  rcases List.mem_cons.1 hx with rfl | hx
  · exact h.get w hw
  · exact h'.get w hw x hx⟩
end Go.Proofs.YtkjpemkankefnaaDoor
