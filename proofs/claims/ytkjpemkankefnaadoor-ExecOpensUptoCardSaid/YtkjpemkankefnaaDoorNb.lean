/-
  THE SECOND ENGINE, second part: judgements in which the world is hidden; control. No program in sight.
-/
import Derived.Test.YtkjpemkankefnaaDoorNa
set_option linter.unusedVariables false
namespace Go.Proofs.YtkjpemkankefnaaDoor
open Go.RowKit

/-- none: a region in its order; else: what is left of the order, and the pledges -/
abbrev Ms := Option (List Nat × Pledges)
def nextM : Ms → Ms
  | none => none
  | some (r, D) => some (r.tail, D)
def loadM (C : World → Prop) : Ms → Ms
  | none => none
  | some ([], D) => some ([], D)
  | some (i :: r, D) => some (r, (i, C) :: D)
def hdOk (ops : Array Oper) (o : Oper) (i : Nat) : Prop := ∃ o', ops[i]? = some o' ∧ o'.op = o.op
structure GC (P : Program) (n : Nat) (w0 : World) (X : Nat → Prop) (c : Code) (Q : Cont) (E : Env) (L : List Assn) : Prop where
  go : ∀ w, St w0 X L w → T P n c Q E w
structure GN (P : Program) (n : Nat) (w0 : World) (X : Nat → Prop) (Q : Cont) (E : Env) (L : List Assn) : Prop where
  go : ∀ w, St w0 X L w → N P n Q E w
structure GX (P : Program) (n : Nat) (w0 : World) (X : Nat → Prop) (id : Nat) (Q : Cont) (E : Env) (L : List Assn) : Prop where
  go : ∀ w, St w0 X L w → Go.Proofs.YtkjpemkankefnaaDoor.X P n id Q E w
structure GR (P : Program) (n : Nat) (w0 : World) (X : Nat → Prop) (Q : Cont) (E : Env) (L : List Assn) : Prop where
  go : ∀ w, St w0 X L w → RT P n Q E w
structure GO (P : Program) (n : Nat) (w0 : World) (X : Nat → Prop) (s : Ms) (ops : Array Oper) (l : List Oper) (Q : Cont) (E : Env) (L : List Assn) : Prop where
  go : match s with
    | none => ∀ w, St w0 X L w → TL P n ops l Q E w
    | some (r, D) => match l, r with
      | [], [] => ∀ w, St w0 X L w → N P n Q E w
      | o :: l', i :: r' => hdOk ops o i → r'.map (nthO ops.toList) = l'.map some → ∀ w, St w0 X L w → TO P n ops D o i r' Q E w
      | _, _ => True
/-- the pledges hold behind the operation at hand, where L' is known -/
structure Dm (w0 : World) (X : Nat → Prop) (ops : Array Oper) (s : Ms) (L' : List Assn) : Prop where
  go : match s with
    | some (i :: _, D) => ∀ w, St w0 X L' w → Dem ops i D w
    | _ => True

section
variable {P : Program} {n : Nat} {w0 : World} {X : Nat → Prop} {Q : Cont} {E : Env} {L L' : List Assn} {s : Ms} {ops : Array Oper} {rest : List Oper} {v : Value}
variable {d : Nat} {ty : TypeId} {pos : String} {aft : Array Edge} {op : Op}
theorem dm_none : Dm w0 X ops none L' := ⟨trivial⟩
theorem dm0 {i : Nat} {r : List Nat} : Dm w0 X ops (some (i :: r, [])) L' := ⟨fun _ _ => trivial⟩
theorem dmOff {i j : Nat} {r : List Nat} {C : World → Prop} {D : Pledges} (hu : unordB ops i j = false) (h : Dm w0 X ops (some (i :: r, D)) L') : Dm w0 X ops (some (i :: r, (j, C) :: D)) L' := ⟨fun w hw => ⟨fun h0 => absurd h0 (by simp [hu]), h.go w hw⟩⟩
theorem dmOn {i j : Nat} {r : List Nat} {C : World → Prop} {D : Pledges} (hC : ∀ w, St w0 X L' w → C w) (h : Dm w0 X ops (some (i :: r, D)) L') : Dm w0 X ops (some (i :: r, (j, C) :: D)) L' := ⟨fun w hw => ⟨fun _ => hC w hw, h.go w hw⟩⟩

theorem GO.tw {r : List Nat} {D : Pledges} : ∀ {l : List Oper}, GO P n w0 X (some (r, D)) ops l Q E L → r.map (nthO ops.toList) = l.map some → ∀ w, St w0 X L w → TW P n ops D r Q E w := by
  intro l k ph w hw
  have hk := k.go
  cases r with
  | nil =>
    cases l with
    | nil => exact tw_nil (hk w hw)
    | cons o l => simp at ph
  | cons i r =>
    cases l with
    | nil => simp at ph
    | cons o l =>
      simp only [List.map_cons, List.cons.injEq] at ph
      exact tw_get ph.1 (hk ⟨o, by rw [← Array.getElem?_toList, ← nthO_eq]; exact ph.1, rfl⟩ ph.2 w hw)
theorem light_of {o : Oper} {i : Nat} {b : Bool} (h : hdOk ops o i) (hl : isLight o.op = b) : lightAt ops i = b := by
  obtain ⟨o', h1, h2⟩ := h
  unfold lightAt; rw [h1]; simp only [h2, hl]
/-- what only computes -/
theorem go_yld (hl : isLight op = true) (h : ∀ w, St w0 X L w → Yld P n ⟨some d, op, ty, pos, aft, none⟩ E v) (hd : Nat.blt d n = true) (k : GO P n w0 X (nextM s) ops rest Q ((d, v) :: E) L) : GO P n w0 X s ops (⟨some d, op, ty, pos, aft, none⟩ :: rest) Q E L := by
  cases s with
  | none => exact ⟨fun w hw => tl_yld (h w hw) hd (k.go w hw)⟩
  | some p =>
    obtain ⟨r, D⟩ := p
    cases r with
    | nil => exact ⟨trivial⟩
    | cons i r => exact ⟨fun hh ph w hw => to_yld (light_of hh hl) (h w hw) hd (k.tw ph w hw)⟩
/-- what looks at memory -/
theorem go_look (C : World → Prop) (hl : isLight op = true) (hC : ∀ w, St w0 X L w → C w) (h : ∀ w, C w → YldAt P n ⟨some d, op, ty, pos, aft, none⟩ E w v) (hd : Nat.blt d n = true) (k : GO P n w0 X (loadM C s) ops rest Q ((d, v) :: E) L) : GO P n w0 X s ops (⟨some d, op, ty, pos, aft, none⟩ :: rest) Q E L := by
  cases s with
  | none => exact ⟨fun w hw => tl_yldAt (h w (hC w hw)) hd (k.go w hw)⟩
  | some p =>
    obtain ⟨r, D⟩ := p
    cases r with
    | nil => exact ⟨trivial⟩
    | cons i r => exact ⟨fun hh ph w hw => to_ldC C (light_of hh hl) (hC w hw) h hd (k.tw ph w hw)⟩
/-- what turns the world, makes memory, calls -/
theorem go_hv {o : Oper} {ρ : Type} {E' : ρ → Env} {L' : ρ → List Assn} {φ : ρ → Prop} (hl : isLight o.op = false)
    (h : ∀ w, St w0 X L w → ∀ rest Q, (∀ r w', φ r → St w0 X (L' r) w' → TL P n ops rest Q (E' r) w') → TL P n ops (o :: rest) Q E w)
    (hD : ∀ r, φ r → Dm w0 X ops s (L' r)) (k : ∀ r, φ r → GO P n w0 X (nextM s) ops rest Q (E' r) (L' r)) : GO P n w0 X s ops (o :: rest) Q E L := by
  cases s with
  | none => exact ⟨fun w hw => h w hw _ _ fun r w' hr hw' => (k r hr).go w' hw'⟩
  | some p =>
    obtain ⟨r, D⟩ := p
    cases r with
    | nil => exact ⟨trivial⟩
    | cons i r => exact ⟨fun hh ph w hw => to_heavy (light_of hh hl) (h w hw _ _ fun r' w' hr hw' => tl_nil (n_step ⟨(hD r' hr).go w' hw'⟩ ((k r' hr).tw ph w' hw')))⟩

/-! tests -/
class Tst (b : Bool) (p q : outParam Prop) : Prop where
  t : b = true → p
  f : b = false → q
instance Tst.dec {p : Prop} [Decidable p] : Tst (decide p) p (¬ p) := ⟨of_decide_eq_true, of_decide_eq_false⟩
instance (priority := high) Tst.decn {p : Prop} [Decidable p] [Decidable (¬ p)] : Tst (decide (¬ p)) (¬ p) p := ⟨of_decide_eq_true, fun e => Classical.not_not.1 (of_decide_eq_false e)⟩
instance Tst.not {b : Bool} {p q : Prop} [h : Tst b p q] : Tst (!b) q p := ⟨fun e => h.f (by simpa using e), fun e => h.t (by simpa using e)⟩
instance Tst.tt : Tst true True False := ⟨fun _ => trivial, fun e => by cases e⟩
instance Tst.ff : Tst false False True := ⟨fun e => (by cases e), fun _ => trivial⟩
instance (priority := low) Tst.any {b : Bool} : Tst b (b = true) (b = false) := ⟨id, id⟩
theorem gcond {c : Operand} {x y : Code} {b : Bool} {p q : Prop} (hc : eev E c = some (.bool b)) [ht : Tst b p q] (h1 : p → GC P n w0 X x Q E L) (h2 : q → GC P n w0 X y Q E L) : GC P n w0 X (.cond c x y) Q E L :=
  ⟨fun w hw => t_cond hc (fun e => (h1 (ht.t e)).go w hw) (fun e => (h2 (ht.f e)).go w hw)⟩
/-- a guard on something light -/
theorem guardT {j dj : Nat} {b : Bool} {p q : Prop} (hl : isLight op = true) (hj : (ops[j]?).bind (·.dst) = some dj) (hv : eget E dj = some (.bool b)) (hd : Nat.blt d n = true) [ht : Tst b p q]
    (h1 : p → GO P n w0 X s ops (⟨some d, op, ty, pos, aft, none⟩ :: rest) Q ((dj, .bool true) :: E) L) (h2 : q → GO P n w0 X (nextM s) ops rest Q ((d, undef) :: (dj, .bool false) :: E) L) :
    GO P n w0 X s ops (⟨some d, op, ty, pos, aft, some (j, true)⟩ :: rest) Q E L := by
  cases s with
  | none => exact ⟨fun w hw => tl_guard_t hj hv hd (fun e => (h1 (ht.t e)).go w hw) (fun e => (h2 (ht.f e)).go w hw)⟩
  | some pp =>
    obtain ⟨r, D⟩ := pp
    cases r with
    | nil => exact ⟨trivial⟩
    | cons i r => exact ⟨fun hh ph w hw => to_guard_t (light_of hh hl) hj hv hd (fun e => (h1 (ht.t e)).go hh ph w hw) (fun e => (h2 (ht.f e)).tw ph w hw)⟩
theorem guardF {j dj : Nat} {b : Bool} {p q : Prop} (hl : isLight op = true) (hj : (ops[j]?).bind (·.dst) = some dj) (hv : eget E dj = some (.bool b)) (hd : Nat.blt d n = true) [ht : Tst b p q]
    (h1 : q → GO P n w0 X s ops (⟨some d, op, ty, pos, aft, none⟩ :: rest) Q ((dj, .bool false) :: E) L) (h2 : p → GO P n w0 X (nextM s) ops rest Q ((d, undef) :: (dj, .bool true) :: E) L) :
    GO P n w0 X s ops (⟨some d, op, ty, pos, aft, some (j, false)⟩ :: rest) Q E L := by
  cases s with
  | none => exact ⟨fun w hw => tl_guard_f hj hv hd (fun e => (h1 (ht.f e)).go w hw) (fun e => (h2 (ht.t e)).go w hw)⟩
  | some pp =>
    obtain ⟨r, D⟩ := pp
    cases r with
    | nil => exact ⟨trivial⟩
    | cons i r => exact ⟨fun hh ph w hw => to_guard_f (light_of hh hl) hj hv hd (fun e => (h1 (ht.f e)).go hh ph w hw) (fun e => (h2 (ht.t e)).tw ph w hw)⟩
theorem guardU {j dj : Nat} {b : Bool} (hl : isLight op = true) (hj : (ops[j]?).bind (·.dst) = some dj) (hv : eget E dj = some undef) (hd : Nat.blt d n = true)
    (k : GO P n w0 X (nextM s) ops rest Q ((d, undef) :: E) L) : GO P n w0 X s ops (⟨some d, op, ty, pos, aft, some (j, b)⟩ :: rest) Q E L := by
  cases s with
  | none => exact ⟨fun w hw => tl_guard_undef hj hv hd (k.go w hw)⟩
  | some pp =>
    obtain ⟨r, D⟩ := pp
    cases r with
    | nil => exact ⟨trivial⟩
    | cons i r => exact ⟨fun hh ph w hw => to_guard_undef (light_of hh hl) hj hv hd (k.tw ph w hw)⟩
/-- a guard on something heavy, in a region that keeps its order or draws it -/
theorem guardTH {j dj : Nat} {b : Bool} {p q : Prop} (hl : isLight op = false) (hj : (ops[j]?).bind (·.dst) = some dj) (hv : eget E dj = some (.bool b)) (hd : Nat.blt d n = true) [ht : Tst b p q] (hD : Dm w0 X ops s L)
    (h1 : p → GO P n w0 X s ops (⟨some d, op, ty, pos, aft, none⟩ :: rest) Q ((dj, .bool true) :: E) L) (h2 : q → GO P n w0 X (nextM s) ops rest Q ((d, undef) :: (dj, .bool false) :: E) L) :
    GO P n w0 X s ops (⟨some d, op, ty, pos, aft, some (j, true)⟩ :: rest) Q E L := by
  cases s with
  | none => exact ⟨fun w hw => tl_guard_t hj hv hd (fun e => (h1 (ht.t e)).go w hw) (fun e => (h2 (ht.f e)).go w hw)⟩
  | some pp =>
    obtain ⟨r, D⟩ := pp
    cases r with
    | nil => exact ⟨trivial⟩
    | cons i r => exact ⟨fun hh ph w hw => to_guard_tH (light_of hh hl) hj hv hd (fun _ => ⟨hD.go w hw⟩) (fun e => (h1 (ht.t e)).go hh ph w hw) (fun e => (h2 (ht.f e)).tw ph w hw)⟩
theorem guardFH {j dj : Nat} {b : Bool} {p q : Prop} (hl : isLight op = false) (hj : (ops[j]?).bind (·.dst) = some dj) (hv : eget E dj = some (.bool b)) (hd : Nat.blt d n = true) [ht : Tst b p q] (hD : Dm w0 X ops s L)
    (h1 : q → GO P n w0 X s ops (⟨some d, op, ty, pos, aft, none⟩ :: rest) Q ((dj, .bool false) :: E) L) (h2 : p → GO P n w0 X (nextM s) ops rest Q ((d, undef) :: (dj, .bool true) :: E) L) :
    GO P n w0 X s ops (⟨some d, op, ty, pos, aft, some (j, false)⟩ :: rest) Q E L := by
  have h0 : ∀ c, eget ((dj, Value.bool c) :: E) dj = some (.bool c) := fun c => by rw [eget_cons, if_pos rfl]
  cases s with
  | none => exact ⟨fun w hw => tl_guard_f hj hv hd (fun e => (h1 (ht.f e)).go w hw) (fun e => (h2 (ht.t e)).go w hw)⟩
  | some pp =>
    obtain ⟨r, D⟩ := pp
    cases r with
    | nil => exact ⟨trivial⟩
    | cons i r =>
      refine ⟨fun hh ph w hw => ?_⟩
      cases hb : b
      · exact ⟨fun a ha => (to_guard_on hj (h0 false) ((h1 (ht.f hb)).go hh ph w hw)).go a (env_case hv hb ha)⟩
      · exact ⟨fun a ha => (to_off_heavy (E := (dj, .bool true) :: E) (light_of hh hl) (fun a ha => wanted_off ha hj (h0 true) rfl) rfl hd ⟨hD.go w hw⟩ ((h2 (ht.t hb)).tw ph w hw)).go a (env_case hv hb ha)⟩
theorem guardUH {j dj : Nat} {b : Bool} (hl : isLight op = false) (hj : (ops[j]?).bind (·.dst) = some dj) (hv : eget E dj = some undef) (hd : Nat.blt d n = true) (hD : Dm w0 X ops s L)
    (k : GO P n w0 X (nextM s) ops rest Q ((d, undef) :: E) L) : GO P n w0 X s ops (⟨some d, op, ty, pos, aft, some (j, b)⟩ :: rest) Q E L := by
  cases s with
  | none => exact ⟨fun w hw => tl_guard_undef hj hv hd (k.go w hw)⟩
  | some pp =>
    obtain ⟨r, D⟩ := pp
    cases r with
    | nil => exact ⟨trivial⟩
    | cons i r => exact ⟨fun hh ph w hw => to_off_heavy (light_of hh hl) (fun a ha => by
        have hy : yielded ops a.tmps j = none := by
          unfold yielded; rw [hj]; simp [ha.get _ _ hv, undef]
        simp [Region.wanted, hy]) rfl hd ⟨hD.go w hw⟩ (k.tw ph w hw)⟩

/-! control -/
theorem gseq {x y : Code} (h : GC P n w0 X x (.seq y Q) E L) : GC P n w0 X (.seq x y) Q E L := ⟨fun w hw => t_seq (h.go w hw)⟩
theorem gblk {id : Nat} {c : Code} (h : GC P n w0 X c (.blk id Q) E L) : GC P n w0 X (.block id c) Q E L := ⟨fun w hw => t_block (h.go w hw)⟩
theorem greg {id : Nat} {l : List Oper} (h : GO P n w0 X none l.toArray l Q E L) : GC P n w0 X (.region id l.toArray false) Q E L := ⟨fun w hw => t_region (h.go w hw)⟩
def ordL (l : List Oper) : List Nat → Option (List Oper)
  | [] => some []
  | i :: r => match nthO l i, ordL l r with | some o, some t => some (o :: t) | _, _ => none
theorem ordL_ph {l : List Oper} : ∀ {r : List Nat} {t : List Oper}, ordL l r = some t → r.map (nthO l) = t.map some
  | [], t, h => by simp [ordL] at h; subst h; rfl
  | i :: r, t, h => by
    simp only [ordL] at h
    split at h
    · rename_i o t' h1 h2; cases h; simp [h1, ordL_ph h2]
    · cases h
theorem gdraw (r : List Nat) {id : Nat} {l l' : List Oper} (hm : P.follows .mixedOrders = true) (hok : drawB l.toArray r = true) (ho : ordL l r = some l') (h : GO P n w0 X (some (r, [])) l.toArray l' Q E L) : GC P n w0 X (.region id l.toArray true) Q E L :=
  ⟨fun w hw => t_draw r hm hok hw fun w hw => h.tw (by simpa using ordL_ph ho) w hw⟩
theorem gskip (h : GN P n w0 X Q E L) : GC P n w0 X .skip Q E L := ⟨fun w hw => t_skip (h.go w hw)⟩
theorem glab {l : Nat} (h : GN P n w0 X Q E L) : GC P n w0 X (.label l) Q E L := ⟨fun w hw => t_label (h.go w hw)⟩
theorem gexit {id : Nat} (h : GX P n w0 X id Q E L) : GC P n w0 X (.exit id) Q E L := ⟨fun w hw => t_exit (h.go w hw)⟩
theorem gret (h : GR P n w0 X Q E L) : GC P n w0 X .ret Q E L := ⟨fun w hw => t_ret (h.go w hw)⟩
theorem gnil (h : GN P n w0 X Q E L) : GO P n w0 X none ops [] Q E L := ⟨fun w hw => tl_nil (h.go w hw)⟩
theorem gnilD {D : Pledges} (h : GN P n w0 X Q E L) : GO P n w0 X (some ([], D)) ops [] Q E L := ⟨fun w hw => h.go w hw⟩
theorem gthen {y : Code} (h : GC P n w0 X y Q E L) : GN P n w0 X (.seq y Q) E L := ⟨fun w hw => n_then (h.go w hw)⟩
theorem gnblk {id : Nat} (h : GN P n w0 X Q E L) : GN P n w0 X (.blk id Q) E L := ⟨fun w hw => n_block (h.go w hw)⟩
theorem gxs {id : Nat} {y : Code} (h : GX P n w0 X id Q E L) : GX P n w0 X id (.seq y Q) E L := ⟨fun w hw => x_then (h.go w hw)⟩
theorem gxb {id : Nat} (h : GN P n w0 X Q E L) : GX P n w0 X id (.blk id Q) E L := ⟨fun w hw => x_block (h.go w hw)⟩
theorem gxn {id id' : Nat} (hne : Nat.beq id' id = false) (h : GX P n w0 X id' Q E L) : GX P n w0 X id' (.blk id Q) E L := ⟨fun w hw => x_block_ne hne (h.go w hw)⟩
theorem gxl {σ : Type} {E' : σ → Env} {J : σ → World → Prop} {m : σ → Nat} {k : Nat} {id : Nat} (h : GX P n w0 X id Q E L) : GX P n w0 X id (.loop σ E' J m k Q) E L := ⟨fun w hw => x_loop (h.go w hw)⟩
theorem gxc {σ : Type} {E' : σ → Env} {J : σ → World → Prop} {id : Nat} (h : GX P n w0 X id Q E L) : GX P n w0 X id (.cut σ E' J Q) E L := ⟨fun w hw => x_cut (h.go w hw)⟩
theorem grs {y : Code} (h : GR P n w0 X Q E L) : GR P n w0 X (.seq y Q) E L := ⟨fun w hw => r_then (h.go w hw)⟩
theorem grb {id : Nat} (h : GR P n w0 X Q E L) : GR P n w0 X (.blk id Q) E L := ⟨fun w hw => r_block (h.go w hw)⟩
theorem grl {σ : Type} {E' : σ → Env} {J : σ → World → Prop} {m : σ → Nat} {k : Nat} (h : GR P n w0 X Q E L) : GR P n w0 X (.loop σ E' J m k Q) E L := ⟨fun w hw => r_loop (h.go w hw)⟩
theorem grc {σ : Type} {E' : σ → Env} {J : σ → World → Prop} (h : GR P n w0 X Q E L) : GR P n w0 X (.cut σ E' J Q) E L := ⟨fun w hw => r_cut (h.go w hw)⟩
/-- some slots, with what they hold -/
def evl (E : Env) : List Nat → Option Env
  | [] => some []
  | d :: r => match eget E d, evl E r with | some v, some K => some ((d, v) :: K) | _, _ => none
/-- a loop: ds: slots that stay; E': the others, ahead of them; L': what is known of memory, φ: what else; m falls -/
theorem gloop {σ : Type} (ds : List Nat) (E' : σ → Env → Env) (L' : σ → List Assn) (φ : σ → Prop) (m : σ → Nat) (x : σ) {K : Env} {c : Code} (hk : evl E ds = some K) (hs : ESub E (E' x K)) (hL : Ent L (L' x)) (hφ : φ x)
    (round : ∀ x, φ x → GC P n w0 X c (.loop σ (fun x => E' x K) (fun x w => φ x ∧ St w0 X (L' x) w) m (m x) Q) (E' x K) (L' x)) : GC P n w0 X (.loop c) Q E L :=
  ⟨fun w hw => t_loop (fun x => E' x K) (fun x w => φ x ∧ St w0 X (L' x) w) m x hs ⟨hφ, hL.go _ _ _ hw⟩ fun x w hj => (round x hj.1).go w hj.2⟩
theorem Ent.refl (L : List Assn) : Ent L L := ⟨fun _ _ _ h => h⟩
/-- a loop that leaves what is known of memory -/
theorem gloopc {σ : Type} (ds : List Nat) (E' : σ → Env → Env) (φ : σ → Prop) (m : σ → Nat) (x : σ) {K : Env} {c : Code} (hk : evl E ds = some K) (hs : ESub E (E' x K)) (hφ : φ x)
    (round : ∀ x, φ x → GC P n w0 X c (.loop σ (fun x => E' x K) (fun x w => φ x ∧ St w0 X ((fun _ => L) x) w) m (m x) Q) (E' x K) L) : GC P n w0 X (.loop c) Q E L :=
  gloop ds E' (fun _ => L) φ m x hk hs (Ent.refl L) hφ round
theorem gnl {σ : Type} {E' : σ → Env} {L' : σ → List Assn} {φ : σ → Prop} {m : σ → Nat} {k : Nat} (x : σ) (hs : ESub E (E' x)) (hL : Ent L (L' x)) (hφ : φ x) (hm : m x < k) : GN P n w0 X (.loop σ E' (fun x w => φ x ∧ St w0 X (L' x) w) m k Q) E L :=
  ⟨fun w hw => n_loop x hs ⟨hφ, hL.go _ _ _ hw⟩ hm⟩
/-- the same, of two and of three variables -/
def loop2 {σ τ : Type} (w0 : World) (X : Nat → Prop) (E' : σ → τ → Env) (L' : σ → τ → List Assn) (φ : σ → τ → Prop) (m : σ → τ → Nat) (k : Nat) (Q : Cont) : Cont :=
  .loop (σ × τ) (fun p => E' p.1 p.2) (fun p w => φ p.1 p.2 ∧ St w0 X (L' p.1 p.2) w) (fun p => m p.1 p.2) k Q
def loop3 {σ τ υ : Type} (w0 : World) (X : Nat → Prop) (E' : σ → τ → υ → Env) (L' : σ → τ → υ → List Assn) (φ : σ → τ → υ → Prop) (m : σ → τ → υ → Nat) (k : Nat) (Q : Cont) : Cont :=
  .loop (σ × τ × υ) (fun p => E' p.1 p.2.1 p.2.2) (fun p w => φ p.1 p.2.1 p.2.2 ∧ St w0 X (L' p.1 p.2.1 p.2.2) w) (fun p => m p.1 p.2.1 p.2.2) k Q
theorem gloop2 {σ τ : Type} (ds : List Nat) (E' : σ → τ → Env → Env) (L' : σ → τ → List Assn) (φ : σ → τ → Prop) (m : σ → τ → Nat) (x : σ) (y : τ) {K : Env} {c : Code} (hk : evl E ds = some K) (hs : ESub E (E' x y K)) (hL : Ent L (L' x y)) (hφ : φ x y)
    (round : ∀ x y, φ x y → GC P n w0 X c (loop2 w0 X (fun x y => E' x y K) L' φ m (m x y) Q) (E' x y K) (L' x y)) : GC P n w0 X (.loop c) Q E L :=
  ⟨fun w hw => t_loop (fun p : σ × τ => E' p.1 p.2 K) (fun (p : σ × τ) w => φ p.1 p.2 ∧ St w0 X (L' p.1 p.2) w) (fun p : σ × τ => m p.1 p.2) (x, y) hs ⟨hφ, hL.go _ _ _ hw⟩ fun (p : σ × τ) w hj => (round p.1 p.2 hj.1).go w hj.2⟩
theorem gnl2 {σ τ : Type} {E' : σ → τ → Env} {L' : σ → τ → List Assn} {φ : σ → τ → Prop} {m : σ → τ → Nat} {k : Nat} (x : σ) (y : τ) (hs : ESub E (E' x y)) (hL : Ent L (L' x y)) (hφ : φ x y) (hm : m x y < k) : GN P n w0 X (loop2 w0 X E' L' φ m k Q) E L :=
  ⟨fun w hw => n_loop (x, y) hs ⟨hφ, hL.go _ _ _ hw⟩ hm⟩
theorem gloop3 {σ τ υ : Type} (ds : List Nat) (E' : σ → τ → υ → Env → Env) (L' : σ → τ → υ → List Assn) (φ : σ → τ → υ → Prop) (m : σ → τ → υ → Nat) (x : σ) (y : τ) (z : υ) {K : Env} {c : Code} (hk : evl E ds = some K) (hs : ESub E (E' x y z K)) (hL : Ent L (L' x y z)) (hφ : φ x y z)
    (round : ∀ x y z, φ x y z → GC P n w0 X c (loop3 w0 X (fun x y z => E' x y z K) L' φ m (m x y z) Q) (E' x y z K) (L' x y z)) : GC P n w0 X (.loop c) Q E L :=
  ⟨fun w hw => t_loop (fun p : σ × τ × υ => E' p.1 p.2.1 p.2.2 K) (fun (p : σ × τ × υ) w => φ p.1 p.2.1 p.2.2 ∧ St w0 X (L' p.1 p.2.1 p.2.2) w) (fun p : σ × τ × υ => m p.1 p.2.1 p.2.2) (x, y, z) hs ⟨hφ, hL.go _ _ _ hw⟩ fun (p : σ × τ × υ) w hj => (round p.1 p.2.1 p.2.2 hj.1).go w hj.2⟩
theorem gnl3 {σ τ υ : Type} {E' : σ → τ → υ → Env} {L' : σ → τ → υ → List Assn} {φ : σ → τ → υ → Prop} {m : σ → τ → υ → Nat} {k : Nat} (x : σ) (y : τ) (z : υ) (hs : ESub E (E' x y z)) (hL : Ent L (L' x y z)) (hφ : φ x y z) (hm : m x y z < k) : GN P n w0 X (loop3 w0 X E' L' φ m k Q) E L :=
  ⟨fun w hw => n_loop (x, y, z) hs ⟨hφ, hL.go _ _ _ hw⟩ hm⟩
/-- ways meet -/
theorem gcut {σ : Type} (ds : List Nat) (E' : σ → Env → Env) (L' : σ → List Assn) (φ : σ → Prop) {K : Env} {x y : Code} (hk : evl E ds = some K) (h : GC P n w0 X x (.cut σ (fun x => E' x K) (fun x w => φ x ∧ St w0 X (L' x) w) Q) E L)
    (k : ∀ s, φ s → GC P n w0 X y Q (E' s K) (L' s)) : GC P n w0 X (.seq x y) Q E L :=
  ⟨fun w hw => t_seq_cut (fun x => E' x K) (fun x w => φ x ∧ St w0 X (L' x) w) (h.go w hw) fun s w hj => (k s hj.1).go w hj.2⟩
theorem gnc {σ : Type} {E' : σ → Env} {L' : σ → List Assn} {φ : σ → Prop} (x : σ) (hs : ESub E (E' x)) (hL : Ent L (L' x)) (hφ : φ x) : GN P n w0 X (.cut σ E' (fun x w => φ x ∧ St w0 X (L' x) w) Q) E L :=
  ⟨fun w hw => n_cut x hs ⟨hφ, hL.go _ _ _ hw⟩⟩
theorem gsub {c : Code} (ds : List Nat) {K : Env} (hk : evl E ds = some K) (hs : ESub E K) (h : GC P n w0 X c Q K L) : GC P n w0 X c Q E L := ⟨fun w hw => t_sub hs (h.go w hw)⟩
theorem gent {c : Code} [h' : Ent L L'] (h : GC P n w0 X c Q E L') : GC P n w0 X c Q E L := ⟨fun w hw => h.go w (h'.go _ _ _ hw)⟩
end

/-! scopes: one label, two labels -/
structure GJ (P : Program) (n : Nat) (w0 : World) (X : Nat → Prop) (l : Nat) (Q : Cont) (E : Env) (L : List Assn) : Prop where
  go : ∀ w, St w0 X L w → GT P n l Q E w
section
variable {P : Program} {n : Nat} {w0 : World} {X : Nat → Prop} {Q : Cont} {E : Env} {L L' : List Assn}
theorem ggoto {l : Nat} (h : GJ P n w0 X l Q E L) : GC P n w0 X (.goto l) Q E L := ⟨fun w hw => t_goto (h.go w hw)⟩
theorem gjs {l : Nat} {y : Code} (h : GJ P n w0 X l Q E L) : GJ P n w0 X l (.seq y Q) E L := ⟨fun w hw => j_then (h.go w hw)⟩
theorem gjb {l id : Nat} (h : GJ P n w0 X l Q E L) : GJ P n w0 X l (.blk id Q) E L := ⟨fun w hw => j_block (h.go w hw)⟩
theorem gjl {l : Nat} {σ : Type} {E' : σ → Env} {J : σ → World → Prop} {m : σ → Nat} {k : Nat} (h : GJ P n w0 X l Q E L) : GJ P n w0 X l (.loop σ E' J m k Q) E L := ⟨fun w hw => j_loop (h.go w hw)⟩
theorem gjl2 {l : Nat} {σ τ : Type} {E' : σ → τ → Env} {L' : σ → τ → List Assn} {φ : σ → τ → Prop} {m : σ → τ → Nat} {k : Nat} (h : GJ P n w0 X l Q E L) : GJ P n w0 X l (loop2 w0 X E' L' φ m k Q) E L := gjl h
theorem gjl3 {l : Nat} {σ τ υ : Type} {E' : σ → τ → υ → Env} {L' : σ → τ → υ → List Assn} {φ : σ → τ → υ → Prop} {m : σ → τ → υ → Nat} {k : Nat} (h : GJ P n w0 X l Q E L) : GJ P n w0 X l (loop3 w0 X E' L' φ m k Q) E L := gjl h
theorem gjc {l : Nat} {σ : Type} {E' : σ → Env} {J : σ → World → Prop} (h : GJ P n w0 X l Q E L) : GJ P n w0 X l (.cut σ E' J Q) E L := ⟨fun w hw => j_cut (h.go w hw)⟩
def scope1 {σ : Type} (w0 : World) (X : Nat → Prop) (l0 : Nat) (E' : σ → Env) (L' : σ → List Assn) (φ : σ → Prop) (m : σ → Nat) (s : Nat) (Q : Cont) : Cont :=
  .scope σ (fun _ x => E' x) (fun l x w => l = l0 ∧ φ x ∧ St w0 X (L' x) w) (fun _ => m) s Q
theorem scope_mono {σ : Type} {E' : Nat → σ → Env} {J : Nat → σ → World → Prop} {m : Nat → σ → Nat} {k k' : Nat} {c : Code} {w : World} (hk : k ≤ k') (h : T P n c (.scope σ E' J m k Q) E w) : T P n c (.scope σ E' J m k' Q) E w :=
  ⟨fun a ha => wp_mono (h.go a ha) fun e a w he => by
    cases e <;> first | exact he | skip
    obtain ⟨x, h1, h2, h3⟩ := he
    exact ⟨x, h1, h2, Nat.lt_of_lt_of_le h3 hk⟩⟩
theorem gscope1 {σ : Type} (l0 : Nat) (ds : List Nat) (E' : σ → Env → Env) (L' : σ → List Assn) (φ : σ → Prop) (m : σ → Nat) (s : Nat) {K : Env} {c y : Code} (hk : evl E ds = some K) (hf : findLabel c l0 = some (.seq .skip y))
    (first : (∀ {E1 : Env} {L1 : List Assn} (x : σ), ESub E1 (E' x K) → Ent L1 (L' x) → φ x → m x < s → GC P n w0 X (.label l0) (.seq y (scope1 w0 X l0 (fun x => E' x K) L' φ m s Q)) E1 L1) → GC P n w0 X c (scope1 w0 X l0 (fun x => E' x K) L' φ m s Q) E L)
    (pass : ∀ x, φ x → GC P n w0 X y (scope1 w0 X l0 (fun x => E' x K) L' φ m (m x) Q) (E' x K) (L' x)) : GC P n w0 X (.scope c) Q E L :=
  ⟨fun w hw => t_scope (fun _ x => E' x K) (fun l x w => l = l0 ∧ φ x ∧ St w0 X (L' x) w) (fun _ => m) s
    ((first fun x hs hL hφ hm => ⟨fun w hw => t_label (n_then (scope_mono (Nat.le_of_lt hm) (t_sub hs ((pass x hφ).go w (hL.go _ _ _ hw)))))⟩).go w hw)
    fun l x w ⟨e, hφ, hw⟩ => ⟨_, e ▸ hf, t_seq (t_skip (n_then ((pass x hφ).go w hw)))⟩⟩
theorem gj1 {σ : Type} {l0 s : Nat} {E' : σ → Env} {L' : σ → List Assn} {φ : σ → Prop} {m : σ → Nat} (x : σ) (hs : ESub E (E' x)) (hL : Ent L (L' x)) (hφ : φ x) (hm : m x < s) : GJ P n w0 X l0 (scope1 w0 X l0 E' L' φ m s Q) E L :=
  ⟨fun w hw => j_scope x hs ⟨rfl, hφ, hL.go _ _ _ hw⟩ hm⟩
theorem gns1 {σ : Type} {l0 s : Nat} {E' : σ → Env} {L' : σ → List Assn} {φ : σ → Prop} {m : σ → Nat} (h : GN P n w0 X Q E L) : GN P n w0 X (scope1 w0 X l0 E' L' φ m s Q) E L := ⟨fun w hw => n_scope (h.go w hw)⟩
theorem grs1 {σ : Type} {l0 s : Nat} {E' : σ → Env} {L' : σ → List Assn} {φ : σ → Prop} {m : σ → Nat} (h : GR P n w0 X Q E L) : GR P n w0 X (scope1 w0 X l0 E' L' φ m s Q) E L := ⟨fun w hw => r_scope (h.go w hw)⟩
theorem gxs1 {σ : Type} {l0 s id : Nat} {E' : σ → Env} {L' : σ → List Assn} {φ : σ → Prop} {m : σ → Nat} (h : GX P n w0 X id Q E L) : GX P n w0 X id (scope1 w0 X l0 E' L' φ m s Q) E L := ⟨fun w hw => x_scope (h.go w hw)⟩
def either {σ τ α : Type} (f : σ → α) (g : τ → α) : σ ⊕ τ → α
  | .inl x => f x
  | .inr y => g y
def scope2 {σ τ : Type} (w0 : World) (X : Nat → Prop) (l0 l1 : Nat) (E0 : σ → Env) (E1 : τ → Env) (L0 : σ → List Assn) (L1 : τ → List Assn) (φ0 : σ → Prop) (φ1 : τ → Prop) (m0 : σ → Nat) (m1 : τ → Nat) (s : Nat) (Q : Cont) : Cont :=
  .scope (σ ⊕ τ) (fun _ => either E0 E1) (fun l x w => either (fun x => l = l0 ∧ φ0 x ∧ St w0 X (L0 x) w) (fun y => l = l1 ∧ φ1 y ∧ St w0 X (L1 y) w) x) (fun _ => either m0 m1) s Q
theorem gscope2 {σ τ : Type} (l0 l1 : Nat) (ds : List Nat) (E0 : σ → Env → Env) (E1 : τ → Env → Env) (L0 : σ → List Assn) (L1 : τ → List Assn) (φ0 : σ → Prop) (φ1 : τ → Prop) (m0 : σ → Nat) (m1 : τ → Nat) (s : Nat) {K : Env} {c y0 y1 : Code} (hk : evl E ds = some K) (hf0 : findLabel c l0 = some (.seq .skip y0)) (hf1 : findLabel c l1 = some (.seq .skip y1))
    (first : (∀ {E' : Env} {L' : List Assn} (x : σ), ESub E' (E0 x K) → Ent L' (L0 x) → φ0 x → m0 x < s → GC P n w0 X (.label l0) (.seq y0 (scope2 w0 X l0 l1 (fun x => E0 x K) (fun x => E1 x K) L0 L1 φ0 φ1 m0 m1 s Q)) E' L') → GC P n w0 X c (scope2 w0 X l0 l1 (fun x => E0 x K) (fun x => E1 x K) L0 L1 φ0 φ1 m0 m1 s Q) E L)
    (pass0 : ∀ x, φ0 x → GC P n w0 X y0 (scope2 w0 X l0 l1 (fun x => E0 x K) (fun x => E1 x K) L0 L1 φ0 φ1 m0 m1 (m0 x) Q) (E0 x K) (L0 x))
    (pass1 : ∀ x, φ1 x → GC P n w0 X y1 (scope2 w0 X l0 l1 (fun x => E0 x K) (fun x => E1 x K) L0 L1 φ0 φ1 m0 m1 (m1 x) Q) (E1 x K) (L1 x)) : GC P n w0 X (.scope c) Q E L :=
  ⟨fun w hw => t_scope (fun _ => either (fun x => E0 x K) (fun x => E1 x K)) (fun l x w => either (fun x => l = l0 ∧ φ0 x ∧ St w0 X (L0 x) w) (fun y => l = l1 ∧ φ1 y ∧ St w0 X (L1 y) w) x) (fun _ => either m0 m1) s
    ((first fun x hs hL hφ hm => ⟨fun w hw => t_label (n_then (scope_mono (Nat.le_of_lt hm) (t_sub hs ((pass0 x hφ).go w (hL.go _ _ _ hw)))))⟩).go w hw)
    fun l x w hj => by
      cases x with
      | inl x => obtain ⟨rfl, hφ, hw⟩ := hj; exact ⟨_, hf0, t_seq (t_skip (n_then ((pass0 x hφ).go w hw)))⟩
      | inr x => obtain ⟨rfl, hφ, hw⟩ := hj; exact ⟨_, hf1, t_seq (t_skip (n_then ((pass1 x hφ).go w hw)))⟩⟩
section
variable {σ τ : Type} {l0 l1 s : Nat} {E0 : σ → Env} {E1 : τ → Env} {L0 : σ → List Assn} {L1 : τ → List Assn} {φ0 : σ → Prop} {φ1 : τ → Prop} {m0 : σ → Nat} {m1 : τ → Nat}
theorem gj20 (x : σ) (hs : ESub E (E0 x)) (hL : Ent L (L0 x)) (hφ : φ0 x) (hm : m0 x < s) : GJ P n w0 X l0 (scope2 w0 X l0 l1 E0 E1 L0 L1 φ0 φ1 m0 m1 s Q) E L := ⟨fun w hw => j_scope (.inl x) hs ⟨rfl, hφ, hL.go _ _ _ hw⟩ hm⟩
theorem gj21 (x : τ) (hs : ESub E (E1 x)) (hL : Ent L (L1 x)) (hφ : φ1 x) (hm : m1 x < s) : GJ P n w0 X l1 (scope2 w0 X l0 l1 E0 E1 L0 L1 φ0 φ1 m0 m1 s Q) E L := ⟨fun w hw => j_scope (.inr x) hs ⟨rfl, hφ, hL.go _ _ _ hw⟩ hm⟩
theorem gns2 (h : GN P n w0 X Q E L) : GN P n w0 X (scope2 w0 X l0 l1 E0 E1 L0 L1 φ0 φ1 m0 m1 s Q) E L := ⟨fun w hw => n_scope (h.go w hw)⟩
theorem grs2 (h : GR P n w0 X Q E L) : GR P n w0 X (scope2 w0 X l0 l1 E0 E1 L0 L1 φ0 φ1 m0 m1 s Q) E L := ⟨fun w hw => r_scope (h.go w hw)⟩
theorem gxs2 {id : Nat} (h : GX P n w0 X id Q E L) : GX P n w0 X id (scope2 w0 X l0 l1 E0 E1 L0 L1 φ0 φ1 m0 m1 s Q) E L := ⟨fun w hw => x_scope (h.go w hw)⟩
end
end

/-! entering, leaving -/
def envO : List Nat → List Value → Option Env
  | _, [] => some []
  | [], _ :: _ => none
  | i :: is, v :: r => match envO is r with | some t => some ((i, v) :: t) | none => none
theorem envO_eq : ∀ {k i : Nat} {vs : List Value} {E : Env}, envO (List.range' i k) vs = some E → envOf i vs = E
  | 0, _, [], E, h => by simp [envO] at h; subst h; rfl
  | k + 1, _, [], E, h => by simp [envO] at h; subst h; rfl
  | 0, _, _ :: _, E, h => by simp [envO] at h
  | k + 1, i, v :: r, E, h => by
    rw [List.range'_succ] at h
    simp only [envO] at h
    split at h
    · rename_i t ht; cases h; simp [envOf, envO_eq ht]
    · cases h
/-- what a function answers: X: the old blocks that it may turn -/
def Ct (P : Program) (f : FuncId) (vs : List Value) (w0 : World) (X : Nat → Prop) {ρ : Type} (val : ρ → Value) (M : ρ → List Assn) (φ : ρ → Prop) : Prop := Calls P f vs.toArray w0 (Ret w0 X val M fun r _ => φ r)
theorem genter {P : Program} {f : FuncId} {fn : Func} {c : Code} {vs : List Value} {w0 : World} {X : Nat → Prop} {L : List Assn} {ρ : Type} {val : ρ → Value} {M : ρ → List Assn} {φ : ρ → Prop} {E : Env} (n : Nat) (hst : St w0 X L w0) (hf : P.funcs[f]? = some fn) (hb : fn.body = some c) (hn : fn.ntmps = n) (hle : Nat.ble vs.length n = true) (he : envO [0, 1, 2, 3, 4, 5, 6, 7, 8, 9, 10, 11] vs = some E)
    (h : GC P n w0 X c (.body fn (Ret w0 X val M fun r _ => φ r)) E L) : Ct P f vs w0 X val M φ :=
  calls_of_t n hf hb hn hle (by rw [envO_eq (k := 12) he]; exact h.go w0 hst)
/-- what the variables of the results hold -/
structure RV (P : Program) (w0 : World) (X : Nat → Prop) (E : Env) (L : List Assn) (rs : List ResultVar) (vs : List Value) : Prop where
  go : ∀ w, St w0 X L w → ResVs P E w rs vs
section
variable {P : Program} {n : Nat} {w0 : World} {X : Nat → Prop} {Q : Cont} {E : Env} {L : List Assn} {rs : List ResultVar} {vs : List Value} {v : Value}
def Lv (P : Program) (w0 : World) (X : Nat → Prop) (L : List Assn) (t : TypeId) (p : Addr) (u : Value) : Prop := ∀ w, St w0 X L w → (loadVar t p).run P w = .ok u w
theorem rv0 : RV P w0 X E L [] [] := ⟨fun _ _ => trivial⟩
theorem rvT {t : Nat} (h : eget E t = some v) (k : RV P w0 X E L rs vs) : RV P w0 X E L (.tmp t :: rs) (v :: vs) := ⟨fun w hw => ⟨h, k.go w hw⟩⟩
theorem rvC {a : Nat} {t : TypeId} {p : Addr} (h : eget E a = some (.pointer (some p))) (hl : Lv P w0 X L t p v) (k : RV P w0 X E L rs vs) : RV P w0 X E L (.cell a t :: rs) (v :: vs) := ⟨fun w hw => ⟨⟨p, h, hl w hw⟩, k.go w hw⟩⟩
theorem gr {fn : Func} {ρ : Type} {val : ρ → Value} {M : ρ → List Assn} {φ : ρ → Prop} (hr : fn.results = rs.toArray) (hv : RV P w0 X E L rs vs) (x : ρ) (he : resVal vs = val x) (hL : Ent L (M x)) (hφ : φ x) : GR P n w0 X (.body fn (Ret w0 X val M fun r _ => φ r)) E L :=
  ⟨fun w hw => rt_body vs hr (hv.go w hw) ⟨x, by rw [he], hL.go _ _ _ hw, hφ⟩⟩
theorem gnb {fn : Func} {ρ : Type} {val : ρ → Value} {M : ρ → List Assn} {φ : ρ → Prop} (hr : fn.results = #[]) (x : ρ) (he : .tuple #[] = val x) (hL : Ent L (M x)) (hφ : φ x) : GN P n w0 X (.body fn (Ret w0 X val M fun r _ => φ r)) E L :=
  ⟨fun w hw => n_body hr ⟨x, by rw [he], hL.go _ _ _ hw, hφ⟩⟩
end
end Go.Proofs.YtkjpemkankefnaaDoor
