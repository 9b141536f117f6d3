/-
  exec.Sound; moneyerref14's parts.
-/
import Derived.Test.YtkjpemkankefnaaDoorEq
import Derived.Test.YtkjpemkankefnaaDoorNk
set_option linter.all false
set_option maxRecDepth 100000
set_option maxHeartbeats 4000000
namespace Go.Proofs.YtkjpemkankefnaaDoor
open Go.RowKit

def RBo : Rep Bool := ⟨1, fun b => [.one (.bool b)], by decide, fun _ => ⟨trivial, rfl, rfl⟩⟩
instance : SzIs RBo 1 := ⟨rfl⟩
instance {b : Bool} : Elm RBo (.bool b) b := ⟨rfl⟩
instance : EL Tryd.prog 4 1 1 := ⟨by
  obtain ⟨i, h1, h2, h3, h4⟩ := info_parts (show (Tryd.prog.info? 4).map (fun i => (i.zero, i.size, i.bytes)) = some (some (.bool false), 1, 1) by kernel_rfl)
  exact ⟨i, _, h1, h2, h3, h4, rfl, by decide⟩⟩
instance : ZE Tryd.prog 4 RBo false := ⟨by kernel_rfl, by kernel_rfl⟩
@[reducible] def opsK (l : List StG) : List Int := l.map (·.op)
theorem drop_ops {l : List StG} {i : Nat} (h : i < l.length) : (opsK l).drop i = (ixd l (i : Int)).op :: (opsK l).drop (i + 1) := by
  rw [List.drop_eq_getElem_cons (by simpa using h), ixd_eq (by omega)]; simp
theorem top_n {x : Bool} {o : List Bool} : (((x :: o).length : Int) - 1).toNat = o.length := by rw [List.length_cons]; omega
theorem top_take {x : Bool} {o : List Bool} : (x :: o).reverse.take o.length = o.reverse := by rw [List.reverse_cons, List.take_left' (by simp)]
theorem top_set {x b : Bool} {o : List Bool} : (x :: o).reverse.set o.length b = (b :: o).reverse := by
  rw [List.reverse_cons, List.reverse_cons, List.set_append_right _ _ (by simp)]; simp
theorem top_ixd {x : Bool} {o : List Bool} : ixd (x :: o).reverse (((x :: o).length : Int) - 1) = x := by
  rw [ixd_eq (by simp)]
  simp
theorem exec_Sound (lA : Option Addr) (lc : Nat) (l : List StG) (w0 : World) (hl : Slr w0 RSt (.slice lA l.length lc) l) (q_l : StP w0 l) (hp : StN l ∧ l.length ≤ 1000000) :
    Ct Tryd.prog 17 [.slice lA l.length lc] w0 no (fun ((e0) : Bool) => .bool e0) (fun (e0) => []) (fun (e0) => e0 = soundB (opsK l)) := by
  have hst := St.start w0
  have i_l := Rw.old hl
  have j_l := StR.old q_l
  refine genter _ hst Tryd.func17 rfl rfl rfl rfl ?_
  have hcap := hl.cap
  repeat' (first
   | (refine kO ?_; first | refine gv rfl rfl ?_ | refine gnil ?_ | refine gl rfl (lvb rfl rfl) rfl (fun _ => ?_) | refine gl rfl (lvB rfl rfl rfl) rfl (fun _ => ?_) | refine gl rfl (lve rfl rfl) rfl (fun _ => ?_) | refine gl rfl (lvE rfl rfl rfl) rfl (fun _ => ?_) | refine gl rfl (lva rfl rfl rfl rfl rfl) rfl (fun _ => ?_) | refine gp rfl (by (try simp only [InR]); omega) rfl ?_ | refine gf rfl rfl rfl ?_ | refine gix rfl rfl rfl rfl (by omega) rfl (fun _ => ?_) | refine gixa rfl rfl rfl rfl (by omega) rfl (fun _ => ?_) | refine gc3 rfl rfl rfl rfl rfl rfl (by omega) rfl (fun _ => ?_) | refine gc2 rfl rfl rfl rfl rfl (by omega) rfl (fun _ => ?_) | refine gch rfl rfl rfl rfl (by omega) rfl (fun _ => ?_) | refine gcl rfl rfl rfl rfl (by omega) rfl (fun _ => ?_) | refine gca rfl rfl rfl rfl ?_ | refine gchm rfl rfl rfl rfl rfl (by omega) rfl (fun _ => ?_) | (refine kK ?_; first | refine gcall rfl ?_ rfl (fun _ _ => ?_) (fun _ _ => ?_) | refine gcv rfl rfl ?_ rfl (fun _ _ => ?_) (fun _ _ => ?_) | refine gcc1 rfl rfl ?_ rfl (fun _ _ => ?_) (fun _ _ => ?_)) | refine geql rfl rfl (by kernel_rfl) ?_ rfl ?_ | refine gneq rfl rfl (by kernel_rfl) ?_ rfl ?_ | refine ga rfl (fun _ => ?_) (fun _ => ?_) | refine gst rfl rfl rfl rfl ?_ ?_ | refine ge rfl rfl rfl rfl ?_ ?_ | refine gea rfl rfl rfl rfl rfl rfl rfl ?_ ?_ | refine gap rfl rfl rfl (by omega) rfl (fun _ => ?_) (fun _ => ?_) | refine gan rfl rfl rfl (by omega) rfl (fun _ => ?_) (fun _ => ?_) | refine gapz rfl rfl rfl rfl (by omega) rfl (fun _ => ?_) (fun _ => ?_) | refine ganz rfl rfl rfl rfl (by omega) rfl (fun _ => ?_) (fun _ => ?_) | refine gbs RB rfl rfl rfl rfl rfl rfl (fun _ => ?_) (fun _ => ?_) | refine gbb rfl rfl rfl (by first | (simp; done) | (simp only [and_true]; omega)) rfl rfl rfl rfl (fun _ => ?_) (fun _ => ?_) | refine gw rfl rfl ?_ | (refine kg ?_; (first | refine guardT rfl rfl rfl rfl (fun h => ?_) (fun h => ?_) | refine guardF rfl rfl rfl rfl (fun h => ?_) (fun h => ?_) | refine guardU rfl rfl rfl rfl ?_ | refine guardTH rfl rfl rfl rfl ?_ (fun h => ?_) (fun h => ?_) | refine guardFH rfl rfl rfl rfl ?_ (fun h => ?_) (fun h => ?_) | refine guardUH rfl rfl rfl rfl ?_ ?_) <;> (first | exact h.elim | (exfalso; omega) | exact absurd h (by assumption) | exact absurd (by assumption) h | skip)))
   | (refine kC ?_; first | refine gseq ?_ | refine greg ?_ | refine gret ?_ | refine gskip ?_ | (refine gcond rfl (fun h => ?_) (fun h => ?_) <;> (first | exact h.elim | (exfalso; omega) | exact absurd h (by assumption) | exact absurd (by assumption) h | skip)) | refine gblk ?_ | refine gexit ?_)
   | (refine kN ?_; first | refine gthen ?_ | refine gnblk ?_)
   | (refine kR ?_; first | refine grs ?_ | refine grb ?_ | refine grl ?_ | refine grc ?_)
   | (refine kX ?_; first | refine gxs ?_ | refine gxb ?_ | refine gxn rfl ?_ | refine gxl ?_ | refine gxc ?_)
   | (refine kR ?_; refine gr rfl (rvT rfl rv0) (_) rfl Ent.nil ?_)
   | (refine Pre.mk ?_; first | exact True.intro | omega | ((repeat' (first | refine And.intro ?_ ?_ | exact True.intro | assumption | omega)); done) | (simp only [and_true, true_and, or_true, true_or]; first | done | omega))
   | (refine kD ?_; first | exact dm_none))
  refine gloop3 [7, 8] (fun (i : Nat) (o : List Bool) (s : Sv) K => (3, .slice s.A o.length s.c) :: (9, .int .i64 i) :: K) (fun i o s => [rw_ 4 RBo s o.length o.reverse]) (fun i o s => i ≤ l.length ∧ o.length ≤ i ∧ soundB (opsK l) = decide (scan ((opsK l).drop i) o = some [])) (fun i o s => l.length - i) 0 [] ⟨none, 0⟩ rfl (by repeat (first | exact trivial | refine ⟨rfl, ?_⟩)) (er0 Ent.nil) ⟨by omega, by simp, rfl⟩ (fun i o s hi => ?_)
  obtain ⟨i1, i2, i3⟩ := hi
  have hrl : o.reverse.length = o.length := List.length_reverse
  have hto := fun h => StN.at hp.1 (i := (i : Int)) ⟨by omega, h⟩
  have hd := fun h => drop_ops (l := l) (i := i) h
  repeat' (first
   | (refine kO ?_; first | refine gbs RBo rfl rfl rfl rfl rfl rfl (fun _ => ?_) (fun _ => ?_) | refine gcr rfl rfl rfl rfl (by omega) rfl ?_ | refine gv rfl rfl ?_ | refine gnil ?_ | refine gl rfl (lvb rfl rfl) rfl (fun _ => ?_) | refine gl rfl (lvB rfl rfl rfl) rfl (fun _ => ?_) | refine gl rfl (lve rfl rfl) rfl (fun _ => ?_) | refine gl rfl (lvE rfl rfl rfl) rfl (fun _ => ?_) | refine gl rfl (lva rfl rfl rfl rfl rfl) rfl (fun _ => ?_) | refine gp rfl (by (try simp only [InR]); omega) rfl ?_ | refine gf rfl rfl rfl ?_ | refine gix rfl rfl rfl rfl (by omega) rfl (fun _ => ?_) | refine gixa rfl rfl rfl rfl (by omega) rfl (fun _ => ?_) | refine gc3 rfl rfl rfl rfl rfl rfl (by omega) rfl (fun _ => ?_) | refine gc2 rfl rfl rfl rfl rfl (by omega) rfl (fun _ => ?_) | refine gch rfl rfl rfl rfl (by omega) rfl (fun _ => ?_) | refine gcl rfl rfl rfl rfl (by omega) rfl (fun _ => ?_) | refine gca rfl rfl rfl rfl ?_ | refine gchm rfl rfl rfl rfl rfl (by omega) rfl (fun _ => ?_) | (refine kK ?_; first | refine gcall rfl ?_ rfl (fun _ _ => ?_) (fun _ _ => ?_) | refine gcv rfl rfl ?_ rfl (fun _ _ => ?_) (fun _ _ => ?_) | refine gcc1 rfl rfl ?_ rfl (fun _ _ => ?_) (fun _ _ => ?_)) | refine geql rfl rfl (by kernel_rfl) ?_ rfl ?_ | refine gneq rfl rfl (by kernel_rfl) ?_ rfl ?_ | refine ga rfl (fun _ => ?_) (fun _ => ?_) | refine gst rfl rfl rfl rfl ?_ ?_ | refine ge rfl rfl rfl rfl ?_ ?_ | refine gea rfl rfl rfl rfl rfl rfl rfl ?_ ?_ | refine gap rfl rfl rfl (by omega) rfl (fun _ => ?_) (fun _ => ?_) | refine gan rfl rfl rfl (by omega) rfl (fun _ => ?_) (fun _ => ?_) | refine gapz rfl rfl rfl rfl (by omega) rfl (fun _ => ?_) (fun _ => ?_) | refine ganz rfl rfl rfl rfl (by omega) rfl (fun _ => ?_) (fun _ => ?_) | refine gbs RB rfl rfl rfl rfl rfl rfl (fun _ => ?_) (fun _ => ?_) | refine gbb rfl rfl rfl (by first | (simp; done) | (simp only [and_true]; omega)) rfl rfl rfl rfl (fun _ => ?_) (fun _ => ?_) | refine gw rfl rfl ?_ | (refine kg ?_; (first | refine guardT rfl rfl rfl rfl (fun h => ?_) (fun h => ?_) | refine guardF rfl rfl rfl rfl (fun h => ?_) (fun h => ?_) | refine guardU rfl rfl rfl rfl ?_ | refine guardTH rfl rfl rfl rfl ?_ (fun h => ?_) (fun h => ?_) | refine guardFH rfl rfl rfl rfl ?_ (fun h => ?_) (fun h => ?_) | refine guardUH rfl rfl rfl rfl ?_ ?_) <;> (first | exact h.elim | (exfalso; omega) | exact absurd h (by assumption) | exact absurd (by assumption) h | skip)))
   | (refine kC ?_; first | refine gseq ?_ | refine greg ?_ | refine gret ?_ | refine gskip ?_ | (refine gcond rfl (fun h => ?_) (fun h => ?_) <;> (first | exact h.elim | (exfalso; omega) | exact absurd h (by assumption) | exact absurd (by assumption) h | skip)) | refine gblk ?_ | refine gexit ?_)
   | (refine kN ?_; first | refine gthen ?_ | refine gnblk ?_)
   | (refine kR ?_; first | refine grs ?_ | refine grb ?_ | refine grl ?_ | refine grc ?_)
   | (refine kX ?_; first | refine gxs ?_ | refine gxb ?_ | refine gxn rfl ?_ | refine gxl ?_ | refine gxc ?_)
   | (refine kR ?_; refine gr rfl (rvT rfl rv0) (_) rfl Ent.nil ?_)
   | (refine Pre.mk ?_; first | exact True.intro | omega | ((repeat' (first | refine And.intro ?_ ?_ | exact True.intro | assumption | omega)); done) | (simp only [and_true, true_and, or_true, true_or]; first | done | omega))
   | (refine kD ?_; first | exact dm_none))
  · rename_i s1 s'
    rw [show o.length + 1 = (false :: o).length from rfl, show o.reverse ++ [false] = (false :: o).reverse from List.reverse_cons.symm]
    exact gnl3 (i + 1) (false :: o) s' (by repeat (first | exact trivial | refine ⟨rfl, ?_⟩)) (er Ent.nil) ⟨by omega, by rw [List.length_cons]; omega, by rw [i3, hd (by omega), sc_if h]⟩ (by omega)
  · exact gnl3 (i + 1) o s (by repeat (first | exact trivial | refine ⟨rfl, ?_⟩)) (er Ent.nil) ⟨by omega, by omega, by rw [i3, hd (by omega), sc_o (by assumption) (by assumption) h]⟩ (by omega)
  · obtain ⟨x, o', rfl⟩ : ∃ x o', o = x :: o' := by cases o with | nil => exact absurd rfl (by assumption) | cons x o' => exact ⟨x, o', rfl⟩
    rw [top_n, top_take]
    exact gnl3 (i + 1) o' s (by repeat (first | exact trivial | refine ⟨rfl, ?_⟩)) (er Ent.nil) ⟨by omega, by rw [List.length_cons] at i2; omega, by rw [i3, hd (by omega), sc_n1 (by assumption)]⟩ (by omega)
  · have e0 : o = [] := List.eq_nil_of_length_eq_zero (by omega)
    subst e0; rw [i3, hd (by omega), sc_n0 (by assumption)]; simp
  · obtain ⟨x, o', rfl⟩ : ∃ x o', o = x :: o' := by cases o with | nil => exact absurd rfl (by assumption) | cons x o' => exact ⟨x, o', rfl⟩
    rw [top_ixd] at h
    rw [i3, hd (by omega), h, sc_e2 (by assumption)]; simp
  · obtain ⟨x, o', rfl⟩ : ∃ x o', o = x :: o' := by cases o with | nil => exact absurd rfl (by assumption) | cons x o' => exact ⟨x, o', rfl⟩
    have hx : ixd (x :: o').reverse (((x :: o').length : Int) - 1) = false := by assumption
    rw [top_ixd] at hx
    rw [top_n, top_set]
    exact gnl3 (i + 1) (true :: o') s (by repeat (first | exact trivial | refine ⟨rfl, ?_⟩)) (er Ent.nil) ⟨by omega, by rw [List.length_cons] at i2 ⊢; omega, by rw [i3, hd (by omega), hx, sc_e1 (by assumption)]⟩ (by omega)
  · have e0 : o = [] := List.eq_nil_of_length_eq_zero (by omega)
    subst e0; rw [i3, hd (by omega), sc_e0 (by assumption)]; simp
  · have e0 : (opsK l).drop i = [] := List.drop_eq_nil_of_le (by rw [List.length_map]; omega)
    rw [i3, e0, decide_eq_decide]
    simp only [scan, Option.some.injEq]
    constructor
    · intro h0; exact List.eq_nil_of_length_eq_zero (by omega)
    · intro h0; subst h0; rfl
instance c_exec_Sound {lA : Option Addr} {lc ln : Nat} {l : List StG} {w0 : World} {X : Nat → Prop} {L : List Assn} [hl : Rw w0 X L (.slice lA ln lc) RSt l] [q_l : StR w0 X L l] : Ctr Tryd.prog 17 [.slice lA ln lc] w0 X L (StN l ∧ l.length ≤ 1000000) (fun _ : Unit => .bool (soundB (opsK l))) (fun _ : Unit => L) (fun _ : Unit => True) :=
  ctr' (M' := (fun _ : Unit => [])) (by kernel_rfl) (fun hp w hw => by have el := hl.len hw; subst el; exact exec_Sound _ _ _ w (hl.get w hw) (q_l.get w hw) hp) (by rintro hp e0 rfl ok; exact ⟨(), rfl, rfl, trivial⟩)
/-! where parts end -/
def partN (l : List Int) (a : Nat) : Int := match pS (l.drop a) [] a with | some n => (n : Nat) | none => 0
def partB (l : List Int) (a : Nat) : Bool := (pS (l.drop a) [] a).isSome
structure Pts where
  f : Int
  e : Int
  ok : Bool
/-- an OpIf's parts -/
def partsR (l : List Int) (a : Nat) : Pts := match pS (l.drop (a + 1)) [] (a + 1) with
  | none => ⟨0, 0, false⟩
  | some f => if f = l.length then ⟨0, 0, false⟩ else if l[f]? = some 4 then ⟨f, f, true⟩ else match pS (l.drop (f + 1)) [] (f + 1) with
    | none => ⟨0, 0, false⟩
    | some e => if e = l.length ∨ l[e]? ≠ some 4 then ⟨0, 0, false⟩ else ⟨f, e, true⟩
/-- what partsR says of the rest -/
theorem pS_parts {l : List Int} {a : Nat} (ha : a < l.length) (h2 : l[a]? = some 2) (s : List Bool) : (partsR l a).ok = false ∧ pS (l.drop a) s a = none ∨ (partsR l a).ok = true ∧ ∃ f e : Nat, (partsR l a).f = f ∧ (partsR l a).e = e ∧ a < f ∧ f ≤ e ∧ e < l.length ∧ pS (l.drop a) s a = pS (l.drop (e + 1)) s (e + 1) := by
  have hd : l.drop a = 2 :: l.drop (a + 1) := by
    rw [List.drop_eq_getElem_cons ha]; congr 1
    rw [List.getElem?_eq_getElem ha] at h2; exact Option.some.inj h2
  have h0 : pS (l.drop a) s a = thenP (l.drop (a + 1)) (a + 1) (false :: s) (pS (l.drop (a + 1)) [] (a + 1)) := by
    rw [hd, pS_if rfl, ← pS_app, List.nil_append]
  have dd : ∀ n, a + 1 ≤ n → (l.drop (a + 1)).drop (n - (a + 1)) = l.drop n := fun n hn => by rw [List.drop_drop, Nat.add_sub_cancel' hn]
  unfold partsR
  cases hp : pS (l.drop (a + 1)) [] (a + 1) with
  | none => left; rw [h0, hp]; exact ⟨rfl, rfl⟩
  | some f =>
    rw [hp] at h0
    have hf := pS_le hp
    rw [List.length_drop] at hf
    simp only [thenP] at h0
    rw [dd f hf.1] at h0
    simp only
    by_cases e1 : f = l.length
    · rw [if_pos e1]; left
      rw [h0, e1, List.drop_length]; exact ⟨rfl, by simp [pS]⟩
    · rw [if_neg e1]
      have hdf : l.drop f = l[f]'(by omega) :: l.drop (f + 1) := List.drop_eq_getElem_cons (by omega)
      have hgf : l[f]? = some (l[f]'(by omega)) := List.getElem?_eq_getElem (by omega)
      have hend := pS_end hp (by rw [List.length_drop]; omega)
      rw [List.getElem?_drop, show a + 1 + (f - (a + 1)) = f by omega, hgf] at hend
      by_cases e2 : l[f]? = some 4
      · rw [if_pos e2]; right
        rw [hgf] at e2
        refine ⟨rfl, f, f, rfl, rfl, by omega, Nat.le_refl _, by omega, ?_⟩
        rw [h0, hdf, pS_n1 (Option.some.inj e2)]
      · rw [if_neg e2]
        rw [hgf] at e2
        have e3 : l[f]'(by omega) = 3 := Option.some.inj (hend.resolve_right e2)
        rw [hdf, pS_e1 e3] at h0
        have h1 : pS (l.drop (f + 1)) (true :: s) (f + 1) = thenP (l.drop (f + 1)) (f + 1) (true :: s) (pS (l.drop (f + 1)) [] (f + 1)) := by rw [← pS_app, List.nil_append]
        cases hq : pS (l.drop (f + 1)) [] (f + 1) with
        | none => left; rw [h0, h1, hq]; exact ⟨rfl, rfl⟩
        | some e =>
          rw [hq] at h1
          have he := pS_le hq
          rw [List.length_drop] at he
          simp only [thenP] at h1
          rw [List.drop_drop, Nat.add_sub_cancel' he.1] at h1
          simp only
          by_cases e4 : e = l.length
          · rw [if_pos (.inl e4)]; left
            rw [h0, h1, e4, List.drop_length]; exact ⟨rfl, by simp [pS]⟩
          · have hde : l.drop e = l[e]'(by omega) :: l.drop (e + 1) := List.drop_eq_getElem_cons (by omega)
            have hge : l[e]? = some (l[e]'(by omega)) := List.getElem?_eq_getElem (by omega)
            have hend2 := pS_end hq (by rw [List.length_drop]; omega)
            rw [List.getElem?_drop, show f + 1 + (e - (f + 1)) = e by omega, hge] at hend2
            by_cases e5 : l[e]? = some 4
            · rw [if_neg (fun h => h.elim e4 (fun h => h e5))]; right
              rw [hge] at e5
              refine ⟨rfl, f, e, rfl, rfl, by omega, by omega, by omega, ?_⟩
              rw [h0, h1, hde, pS_n1 (Option.some.inj e5)]
            · rw [if_pos (.inr e5)]; left
              rw [hge] at e5
              have e6 : l[e]'(by omega) = 3 := Option.some.inj (hend2.resolve_right e5)
              rw [h0, h1, hde, pS_e2 e6]; exact ⟨rfl, rfl⟩
theorem partN_b {l : List Int} {a : Nat} (h : a ≤ l.length) : 0 ≤ partN l a ∧ partN l a ≤ l.length ∧ (partB l a = true → (a : Int) ≤ partN l a) := by
  unfold partN partB
  split
  · rename_i n hp
    have := pS_le hp
    rw [List.length_drop] at this
    exact ⟨by omega, by omega, fun _ => by omega⟩
  · rename_i hp; exact ⟨by omega, by omega, fun h => by simp [hp] at h⟩
def PartOk (lA : Option Addr) (lc : Nat) (l : List StG) (k : Nat) : Prop := ∀ (z : Int) (w0 : World), Slr w0 RSt (.slice lA l.length lc) l → (0 ≤ z ∧ z ≤ l.length ∧ 2 * (l.length - z.toNat) + 1 ≤ k) →
    Ct Tryd.prog 38 [.slice lA l.length lc, .int .i64 z] w0 no (fun (e0, e1) => .tuple #[.int .i64 e0, .bool e1]) (fun (_ : Int × Bool) => []) (fun (e0, e1) => e0 = partN (opsK l) z.toNat ∧ e1 = partB (opsK l) z.toNat)
def PartsOk (lA : Option Addr) (lc : Nat) (l : List StG) (k : Nat) : Prop := ∀ (z : Int) (w0 : World), Slr w0 RSt (.slice lA l.length lc) l → (0 ≤ z ∧ z < l.length ∧ 2 * (l.length - z.toNat) ≤ k) →
    Ct Tryd.prog 58 [.slice lA l.length lc, .int .i64 z] w0 no (fun (e0, e1, e2) => .tuple #[.int .i64 e0, .int .i64 e1, .bool e2]) (fun (_ : Int × Int × Bool) => []) (fun (e0, e1, e2) => e0 = (partsR (opsK l) z.toNat).f ∧ e1 = (partsR (opsK l) z.toNat).e ∧ e2 = (partsR (opsK l) z.toNat).ok)
theorem part_c {lA : Option Addr} {lc : Nat} {l : List StG} {k : Nat} (h : PartOk lA lc l k) {w0 : World} {X : Nat → Prop} {L : List Assn} {z : Int} [hl : Rw w0 X L (.slice lA l.length lc) RSt l] :
    Ctr Tryd.prog 38 [.slice lA l.length lc, .int .i64 z] w0 X L (0 ≤ z ∧ z ≤ l.length ∧ 2 * (l.length - z.toNat) + 1 ≤ k) (fun _ : Unit => .tuple #[.int .i64 (partN (opsK l) z.toNat), .bool (partB (opsK l) z.toNat)]) (fun _ : Unit => L) (fun _ : Unit => (0 ≤ partN (opsK l) z.toNat ∧ partN (opsK l) z.toNat ≤ l.length) ∧ (partB (opsK l) z.toNat = true → z ≤ partN (opsK l) z.toNat)) :=
  ctr' (M' := fun _ : Unit => []) (by kernel_rfl) (fun hp w hw => h z w (hl.get w hw) hp) (by
    rintro hp ⟨_, _⟩ ⟨rfl, rfl⟩ _
    have hb := partN_b (l := opsK l) (a := z.toNat) (by rw [List.length_map]; omega)
    rw [List.length_map] at hb
    exact ⟨(), rfl, rfl, ⟨hb.1, hb.2.1⟩, fun h => by have := hb.2.2 h; omega⟩)
theorem parts_c {lA : Option Addr} {lc : Nat} {l : List StG} {k : Nat} (h : PartsOk lA lc l k) {w0 : World} {X : Nat → Prop} {L : List Assn} {z : Int} [hl : Rw w0 X L (.slice lA l.length lc) RSt l] :
    Ctr Tryd.prog 58 [.slice lA l.length lc, .int .i64 z] w0 X L (0 ≤ z ∧ z < l.length ∧ 2 * (l.length - z.toNat) ≤ k) (fun _ : Unit => .tuple #[.int .i64 (partsR (opsK l) z.toNat).f, .int .i64 (partsR (opsK l) z.toNat).e, .bool (partsR (opsK l) z.toNat).ok]) (fun _ : Unit => L) (fun _ : Unit => True) :=
  ctr' (M' := fun _ : Unit => []) (by kernel_rfl) (fun hp w hw => h z w (hl.get w hw) hp) (by rintro hp ⟨_, _, _⟩ ⟨rfl, rfl, rfl⟩ _; exact ⟨(), rfl, rfl, trivial⟩)
theorem partsR_eq (l : List Int) (a : Nat) : partsR l a = if partB l (a + 1) = false then ⟨0, 0, false⟩ else if partN l (a + 1) = l.length then ⟨0, 0, false⟩ else if l[(partN l (a + 1)).toNat]? = some 4 then ⟨partN l (a + 1), partN l (a + 1), true⟩ else if partB l ((partN l (a + 1)).toNat + 1) = false then ⟨0, 0, false⟩ else if partN l ((partN l (a + 1)).toNat + 1) = l.length then ⟨0, 0, false⟩ else if l[(partN l ((partN l (a + 1)).toNat + 1)).toNat]? = some 4 then ⟨partN l (a + 1), partN l ((partN l (a + 1)).toNat + 1), true⟩ else ⟨0, 0, false⟩ := by
  unfold partsR
  cases hp : pS (l.drop (a + 1)) [] (a + 1) with
  | none => have e : partB l (a + 1) = false := by unfold partB; rw [hp]; rfl
            rw [if_pos e]
  | some f =>
    have e : partB l (a + 1) = true := by unfold partB; rw [hp]; rfl
    have e2 : partN l (a + 1) = (f : Nat) := by unfold partN; rw [hp]
    rw [e, e2]
    simp only [Bool.true_eq_false, if_false, Int.toNat_natCast, Int.natCast_inj]
    split
    · rfl
    · split
      · rfl
      · cases hq : pS (l.drop (f + 1)) [] (f + 1) with
        | none => have e : partB l (f + 1) = false := by unfold partB; rw [hq]; rfl
                  rw [if_pos e]
        | some g =>
          have e3 : partB l (f + 1) = true := by unfold partB; rw [hq]; rfl
          have e4 : partN l (f + 1) = (g : Nat) := by unfold partN; rw [hq]
          rw [e3, e4]
          simp only [Bool.true_eq_false, if_false, Int.toNat_natCast, Int.natCast_inj]
          by_cases h1 : g = l.length
          · rw [if_pos h1, if_pos (.inl h1)]
          · by_cases h2 : l[g]? = some 4
            · rw [if_neg h1, if_pos h2, if_neg (fun h => h.elim h1 (fun h => h h2))]
            · rw [if_neg h1, if_neg h2, if_pos (.inr h2)]
theorem op_at {l : List StG} {z : Int} (h : 0 ≤ z ∧ z < l.length) (v : Int) : (opsK l)[z.toNat]? = some v ↔ (ixd l z).op = v := by
  rw [List.getElem?_eq_getElem (by rw [List.length_map]; omega), ixd_eq (by omega)]
  simp
theorem parts_step (lA : Option Addr) (lc : Nat) (l : List StG) (k : Nat) (hN : l.length ≤ 1000000) (hk : PartOk lA lc l k) (z : Int) (w0 : World) (hl : Slr w0 RSt (.slice lA l.length lc) l) (hp : 0 ≤ z ∧ z < l.length ∧ 2 * (l.length - z.toNat) ≤ k + 1) :
    Ct Tryd.prog 58 [.slice lA l.length lc, .int .i64 z] w0 no (fun ((e0, e1, e2) : Int × Int × Bool) => .tuple #[.int .i64 e0, .int .i64 e1, .bool e2]) (fun (e0, e1, e2) => []) (fun (e0, e1, e2) => e0 = (partsR (opsK l) z.toNat).f ∧ e1 = (partsR (opsK l) z.toNat).e ∧ e2 = (partsR (opsK l) z.toNat).ok) := by
  have hst := St.start w0
  have i_l := Rw.old hl
  have i_c : ∀ {w0 : World} {X : Nat → Prop} {L : List Assn} {z : Int} [hl : Rw w0 X L (.slice lA l.length lc) RSt l], Ctr Tryd.prog (38) [.slice lA l.length lc, .int .i64 z] w0 X L _ _ _ _ := part_c hk
  refine genter _ hst Tryd.func58 rfl rfl rfl rfl ?_
  repeat' (first
   | (refine kO ?_; first | refine gv rfl rfl ?_ | refine gnil ?_ | refine gl rfl (lvb rfl rfl) rfl (fun _ => ?_) | refine gl rfl (lvB rfl rfl rfl) rfl (fun _ => ?_) | refine gl rfl (lve rfl rfl) rfl (fun _ => ?_) | refine gl rfl (lvE rfl rfl rfl) rfl (fun _ => ?_) | refine gl rfl (lva rfl rfl rfl rfl rfl) rfl (fun _ => ?_) | refine gp rfl (by (try simp only [InR]); omega) rfl ?_ | refine gf rfl rfl rfl ?_ | refine gix rfl rfl rfl rfl (by omega) rfl (fun _ => ?_) | refine gixa rfl rfl rfl rfl (by omega) rfl (fun _ => ?_) | (refine kK ?_; first | refine gcall rfl ?_ rfl (fun _ _ => ?_) (fun _ _ => ?_) | refine gcv rfl rfl ?_ rfl (fun _ _ => ?_) (fun _ _ => ?_) | refine gcc1 rfl rfl ?_ rfl (fun _ _ => ?_) (fun _ _ => ?_)) | refine geql rfl rfl (by kernel_rfl) ?_ rfl ?_ | refine gneq rfl rfl (by kernel_rfl) ?_ rfl ?_ | refine gw rfl rfl ?_ | (refine kg ?_; (first | refine guardT rfl rfl rfl rfl (fun h => ?_) (fun h => ?_) | refine guardF rfl rfl rfl rfl (fun h => ?_) (fun h => ?_) | refine guardU rfl rfl rfl rfl ?_ | refine guardTH rfl rfl rfl rfl ?_ (fun h => ?_) (fun h => ?_) | refine guardFH rfl rfl rfl rfl ?_ (fun h => ?_) (fun h => ?_) | refine guardUH rfl rfl rfl rfl ?_ ?_) <;> (first | exact h.elim | (exfalso; omega) | exact absurd h (by assumption) | exact absurd (by assumption) h | skip)))
   | (refine kC ?_; first | refine gseq ?_ | refine greg ?_ | refine gret ?_ | refine gskip ?_ | (refine gcond rfl (fun h => ?_) (fun h => ?_) <;> (first | exact h.elim | (exfalso; omega) | exact absurd h (by assumption) | exact absurd (by assumption) h | skip)))
   | (refine kN ?_; first | refine gthen ?_)
   | (refine kR ?_; first | refine grs ?_ | refine grc ?_)
   | (refine kR ?_; refine gr rfl (rvT rfl (rvT rfl (rvT rfl rv0))) (_, _, _) rfl Ent.nil ?_)
   | exact Pre.mk (by have hq := (And.right (a := (0 ≤ _ ∧ _ ≤ ((l.length : Nat) : Int))) (by assumption)) (by assumption); omega)
   | (refine Pre.mk ?_; first | exact True.intro | omega | ((repeat' (first | refine And.intro ?_ ?_ | exact True.intro | assumption | omega)); done) | (simp only [and_true, true_and, or_true, true_or]; first | done | omega))
   | (refine kD ?_; first | exact dm_none))
  all_goals
    have ez : (z + 1).toNat = z.toNat + 1 := by omega
    simp only [ez] at *
    have hq0 := partN_b (l := opsK l) (a := z.toNat + 1) (by rw [List.length_map]; omega)
    rw [List.length_map] at hq0
    generalize hf : partN (opsK l) (z.toNat + 1) = f at *
    have ef : (f + 1).toNat = f.toNat + 1 := by omega
    simp only [ef] at *
  all_goals first
    | exact Pre.mk (by have hB : partB (opsK l) (z.toNat + 1) = true := by assumption
                       have := hq0.2.2 hB; omega)
    | (show _ = (partsR (opsK l) z.toNat).f ∧ _ = (partsR (opsK l) z.toNat).e ∧ _ = (partsR (opsK l) z.toNat).ok
       rw [partsR_eq, hf, List.length_map])
  all_goals
    have hg0 : f.toNat + 1 ≤ l.length → 0 ≤ partN (opsK l) (f.toNat + 1) ∧ partN (opsK l) (f.toNat + 1) ≤ l.length := fun h => by
      have := partN_b (l := opsK l) (a := f.toNat + 1) (by rw [List.length_map]; omega)
      rw [List.length_map] at this; exact ⟨this.1, this.2.1⟩
    have ho := fun (h : 0 ≤ f ∧ f < l.length) => op_at (l := l) h 4
    have ho2 := fun (h : 0 ≤ partN (opsK l) (f.toNat + 1) ∧ partN (opsK l) (f.toNat + 1) < l.length) => op_at (l := l) h 4
    generalize partN (opsK l) (f.toNat + 1) = g at *
    generalize (opsK l)[f.toNat]? = u at *
    generalize (opsK l)[g.toNat]? = v at *
    generalize (ixd l f).op = uo at *
    generalize (ixd l g).op = vo at *
    generalize partB (opsK l) (f.toNat + 1) = b2 at *
    generalize partB (opsK l) (z.toNat + 1) = b1 at *
    clear i_c hk hst i_l hl hf ez ef
    grind
theorem part_step (lA : Option Addr) (lc : Nat) (l : List StG) (k : Nat) (hN : l.length ≤ 1000000) (hk : PartsOk lA lc l k) (z : Int) (w0 : World) (hl : Slr w0 RSt (.slice lA l.length lc) l) (hp : 0 ≤ z ∧ z ≤ l.length ∧ 2 * (l.length - z.toNat) + 1 ≤ k + 1) :
    Ct Tryd.prog 38 [.slice lA l.length lc, .int .i64 z] w0 no (fun ((e0, e1) : Int × Bool) => .tuple #[.int .i64 e0, .bool e1]) (fun (e0, e1) => []) (fun (e0, e1) => e0 = partN (opsK l) z.toNat ∧ e1 = partB (opsK l) z.toNat) := by
  have hst := St.start w0
  have i_l := Rw.old hl
  have i_c : ∀ {w0 : World} {X : Nat → Prop} {L : List Assn} {z : Int} [hl : Rw w0 X L (.slice lA l.length lc) RSt l], Ctr Tryd.prog (58) [.slice lA l.length lc, .int .i64 z] w0 X L _ _ _ _ := parts_c hk
  obtain ⟨a, rfl⟩ := Int.eq_ofNat_of_zero_le hp.1
  have ea : ((a : Nat) : Int).toNat = a := rfl
  rw [ea] at *
  refine genter _ hst Tryd.func38 rfl rfl rfl rfl ?_
  repeat' (first
   | (refine kO ?_; first | refine gv rfl rfl ?_ | refine gnil ?_ | refine gl rfl (lvb rfl rfl) rfl (fun _ => ?_) | refine gl rfl (lvB rfl rfl rfl) rfl (fun _ => ?_) | refine gl rfl (lve rfl rfl) rfl (fun _ => ?_) | refine gl rfl (lvE rfl rfl rfl) rfl (fun _ => ?_) | refine gl rfl (lva rfl rfl rfl rfl rfl) rfl (fun _ => ?_) | refine gp rfl (by (try simp only [InR]); omega) rfl ?_ | refine gf rfl rfl rfl ?_ | refine gix rfl rfl rfl rfl (by omega) rfl (fun _ => ?_) | refine gixa rfl rfl rfl rfl (by omega) rfl (fun _ => ?_) | (refine kK ?_; first | refine gcall rfl ?_ rfl (fun _ _ => ?_) (fun _ _ => ?_) | refine gcv rfl rfl ?_ rfl (fun _ _ => ?_) (fun _ _ => ?_) | refine gcc1 rfl rfl ?_ rfl (fun _ _ => ?_) (fun _ _ => ?_)) | refine gneq rfl rfl (by kernel_rfl) ?_ rfl ?_ | refine gw rfl rfl ?_ | (refine kg ?_; (first | refine guardT rfl rfl rfl rfl (fun h => ?_) (fun h => ?_) | refine guardF rfl rfl rfl rfl (fun h => ?_) (fun h => ?_) | refine guardU rfl rfl rfl rfl ?_ | refine guardTH rfl rfl rfl rfl ?_ (fun h => ?_) (fun h => ?_) | refine guardFH rfl rfl rfl rfl ?_ (fun h => ?_) (fun h => ?_) | refine guardUH rfl rfl rfl rfl ?_ ?_) <;> (first | exact h.elim | (exfalso; omega) | exact absurd h (by assumption) | exact absurd (by assumption) h | skip)))
   | (refine kC ?_; first | refine gseq ?_ | refine greg ?_ | refine gret ?_ | refine gskip ?_ | (refine gcond rfl (fun h => ?_) (fun h => ?_) <;> (first | exact h.elim | (exfalso; omega) | exact absurd h (by assumption) | exact absurd (by assumption) h | skip)) | refine gblk ?_ | refine gexit ?_)
   | (refine kN ?_; first | refine gthen ?_ | refine gnblk ?_)
   | (refine kR ?_; first | refine grs ?_ | refine grb ?_ | refine grl ?_ | refine grc ?_)
   | (refine kX ?_; first | refine gxs ?_ | refine gxb ?_ | refine gxn rfl ?_ | refine gxl ?_ | refine gxc ?_)
   | (refine kR ?_; refine gr rfl (rvT rfl (rvT rfl rv0)) (_, _) rfl Ent.nil ?_)
   | (refine Pre.mk ?_; first | exact True.intro | omega | ((repeat' (first | refine And.intro ?_ ?_ | exact True.intro | assumption | omega)); done) | (simp only [and_true, true_and, or_true, true_or]; first | done | omega))
   | (refine kD ?_; first | exact dm_none))
  refine gloop [0] (fun (j : Nat) K => (1, .int .i64 j) :: K) (fun j => []) (fun j => a ≤ j ∧ j ≤ l.length ∧ pS ((opsK l).drop a) [] a = pS ((opsK l).drop j) [] j) (fun j => l.length - j) a rfl (by repeat (first | exact trivial | refine ⟨rfl, ?_⟩)) Ent.nil ⟨Nat.le_refl _, by omega, rfl⟩ (fun j hj => ?_)
  obtain ⟨j1, j2, j3⟩ := hj
  have hd := fun h => drop_ops (l := l) (i := j) h
  have hml : (opsK l).length = l.length := List.length_map ..
  have hpp := fun (h : j < l.length) (h2 : (ixd l (j : Int)).op = 2) => pS_parts (l := opsK l) (a := j) (by omega) ((op_at (z := (j : Int)) ⟨by omega, by omega⟩ 2).2 h2) []
  have ej : ((j : Nat) : Int).toNat = j := rfl
  repeat' (first
   | (refine kO ?_; first | refine gv rfl rfl ?_ | refine gnil ?_ | refine gl rfl (lvb rfl rfl) rfl (fun _ => ?_) | refine gl rfl (lvB rfl rfl rfl) rfl (fun _ => ?_) | refine gl rfl (lve rfl rfl) rfl (fun _ => ?_) | refine gl rfl (lvE rfl rfl rfl) rfl (fun _ => ?_) | refine gl rfl (lva rfl rfl rfl rfl rfl) rfl (fun _ => ?_) | refine gp rfl (by (try simp only [InR]); omega) rfl ?_ | refine gf rfl rfl rfl ?_ | refine gix rfl rfl rfl rfl (by omega) rfl (fun _ => ?_) | refine gixa rfl rfl rfl rfl (by omega) rfl (fun _ => ?_) | (refine kK ?_; first | refine gcall rfl ?_ rfl (fun _ _ => ?_) (fun _ _ => ?_) | refine gcv rfl rfl ?_ rfl (fun _ _ => ?_) (fun _ _ => ?_) | refine gcc1 rfl rfl ?_ rfl (fun _ _ => ?_) (fun _ _ => ?_)) | refine gneq rfl rfl (by kernel_rfl) ?_ rfl ?_ | refine gw rfl rfl ?_ | (refine kg ?_; (first | refine guardT rfl rfl rfl rfl (fun h => ?_) (fun h => ?_) | refine guardF rfl rfl rfl rfl (fun h => ?_) (fun h => ?_) | refine guardU rfl rfl rfl rfl ?_ | refine guardTH rfl rfl rfl rfl ?_ (fun h => ?_) (fun h => ?_) | refine guardFH rfl rfl rfl rfl ?_ (fun h => ?_) (fun h => ?_) | refine guardUH rfl rfl rfl rfl ?_ ?_) <;> (first | exact h.elim | (exfalso; omega) | exact absurd h (by assumption) | exact absurd (by assumption) h | skip)))
   | (refine kC ?_; first | refine gseq ?_ | refine greg ?_ | refine gret ?_ | refine gskip ?_ | (refine gcond rfl (fun h => ?_) (fun h => ?_) <;> (first | exact h.elim | (exfalso; omega) | exact absurd h (by assumption) | exact absurd (by assumption) h | skip)) | refine gblk ?_ | refine gexit ?_)
   | (refine kN ?_; first | refine gthen ?_ | refine gnblk ?_)
   | (refine kR ?_; first | refine grs ?_ | refine grb ?_ | refine grl ?_ | refine grc ?_)
   | (refine kX ?_; first | refine gxs ?_ | refine gxb ?_ | refine gxn rfl ?_ | refine gxl ?_ | refine gxc ?_)
   | (refine kR ?_; refine gr rfl (rvT rfl (rvT rfl rv0)) (_, _) rfl Ent.nil ?_)
   | (refine Pre.mk ?_; first | exact True.intro | omega | ((repeat' (first | refine And.intro ?_ ?_ | exact True.intro | assumption | omega)); done) | (simp only [and_true, true_and, or_true, true_or]; first | done | omega))
   | (refine kD ?_; first | exact dm_none))
  · exact gnl (j + 1) (by repeat (first | exact trivial | refine ⟨rfl, ?_⟩)) Ent.nil ⟨by omega, by omega, by rw [j3, hd (by omega), pS_o h (by assumption) (by assumption)]⟩ (by omega)
  · rw [ej] at h
    rcases hpp (by omega) (by assumption) with hq | hq
    · show 0 = partN (opsK l) a ∧ false = partB (opsK l) a
      unfold partN partB; rw [j3, hq.2]; exact ⟨rfl, rfl⟩
    · rw [hq.1] at h; cases h
  · rw [ej] at *
    rcases hpp (by omega) (by assumption) with hq | ⟨_, f, e, hf, he, a1, a2, a3, a4⟩
    · rw [hq.1] at h; cases h
    · have hw : IntKind.wrap .i64 ((e + 1 : Nat) : Int) = ((e + 1 : Nat) : Int) := InR.wrap (k := .i64) (by simp only [InR]; omega)
      rw [he, show ((e : Nat) : Int) + 1 = ((e + 1 : Nat) : Int) by omega, hw]
      exact gnl (e + 1) (by repeat (first | exact trivial | refine ⟨rfl, ?_⟩)) Ent.nil ⟨by omega, by omega, by rw [j3, a4]⟩ (by omega)
  · have e1 : pS ((opsK l).drop j) [] j = some j := by rw [hd (by omega), pS_n0 h]
    show (j : Int) = partN (opsK l) a ∧ true = partB (opsK l) a
    unfold partN partB; rw [j3, e1]; exact ⟨rfl, rfl⟩
  · have e1 : pS ((opsK l).drop j) [] j = some j := by rw [hd (by omega), pS_e0 (by assumption)]
    show (j : Int) = partN (opsK l) a ∧ true = partB (opsK l) a
    unfold partN partB; rw [j3, e1]; exact ⟨rfl, rfl⟩
  · have e1 : pS ((opsK l).drop j) [] j = some j := by rw [List.drop_eq_nil_of_le (by omega)]; simp [pS]
    show (j : Int) = partN (opsK l) a ∧ true = partB (opsK l) a
    unfold partN partB; rw [j3, e1]; exact ⟨rfl, rfl⟩
theorem part_parts (lA : Option Addr) (lc : Nat) (l : List StG) (hN : l.length ≤ 1000000) : ∀ k, PartOk lA lc l k ∧ PartsOk lA lc l k
  | 0 => ⟨fun z w0 hl hp => by omega, fun z w0 hl hp => by omega⟩
  | k + 1 => ⟨fun z w0 hl hp => part_step lA lc l k hN (part_parts lA lc l hN k).2 z w0 hl hp, fun z w0 hl hp => parts_step lA lc l k hN (part_parts lA lc l hN k).1 z w0 hl hp⟩
instance c_ref14_part {lA : Option Addr} {lc ln : Nat} {l : List StG} {w0 : World} {X : Nat → Prop} {L : List Assn} {z : Int} [hl : Rw w0 X L (.slice lA ln lc) RSt l] :
    Ctr Tryd.prog 38 [.slice lA ln lc, .int .i64 z] w0 X L (0 ≤ z ∧ z ≤ l.length ∧ l.length ≤ 1000000) (fun _ : Unit => .tuple #[.int .i64 (partN (opsK l) z.toNat), .bool (partB (opsK l) z.toNat)]) (fun _ : Unit => L) (fun _ : Unit => (0 ≤ partN (opsK l) z.toNat ∧ partN (opsK l) z.toNat ≤ l.length) ∧ (partB (opsK l) z.toNat = true → z ≤ partN (opsK l) z.toNat)) :=
  ctr' (M' := fun _ : Unit => []) (by kernel_rfl) (fun hp w hw => by have e := hl.len hw; subst e; exact (part_parts lA lc l hp.2.2 (2 * (l.length - z.toNat) + 1)).1 z w (hl.get w hw) ⟨hp.1, hp.2.1, Nat.le_refl _⟩) (by
    rintro hp ⟨_, _⟩ ⟨rfl, rfl⟩ _
    have hb := partN_b (l := opsK l) (a := z.toNat) (by rw [List.length_map]; omega)
    rw [List.length_map] at hb
    exact ⟨(), rfl, rfl, ⟨hb.1, hb.2.1⟩, fun h => by have := hb.2.2 h; omega⟩)
instance c_ref14_parts {lA : Option Addr} {lc ln : Nat} {l : List StG} {w0 : World} {X : Nat → Prop} {L : List Assn} {z : Int} [hl : Rw w0 X L (.slice lA ln lc) RSt l] :
    Ctr Tryd.prog 58 [.slice lA ln lc, .int .i64 z] w0 X L (0 ≤ z ∧ z < l.length ∧ l.length ≤ 1000000) (fun _ : Unit => .tuple #[.int .i64 (partsR (opsK l) z.toNat).f, .int .i64 (partsR (opsK l) z.toNat).e, .bool (partsR (opsK l) z.toNat).ok]) (fun _ : Unit => L) (fun _ : Unit => True) :=
  ctr' (M' := fun _ : Unit => []) (by kernel_rfl) (fun hp w hw => by have e := hl.len hw; subst e; exact (part_parts lA lc l hp.2.2 (2 * (l.length - z.toNat))).2 z w (hl.get w hw) ⟨hp.1, hp.2.1, Nat.le_refl _⟩) (by rintro hp ⟨_, _, _⟩ ⟨rfl, rfl, rfl⟩ _; exact ⟨(), rfl, rfl, trivial⟩)
theorem ref14_Sound (lA : Option Addr) (lc : Nat) (l : List StG) (w0 : World) (hl : Slr w0 RSt (.slice lA l.length lc) l) (hp : l.length ≤ 1000000) :
    Ct Tryd.prog 18 [.slice lA l.length lc] w0 no (fun ((e0) : Bool) => .bool e0) (fun (e0) => []) (fun (e0) => e0 = soundB (opsK l)) := by
  have hst := St.start w0
  have i_l := Rw.old hl
  refine genter _ hst Tryd.func18 rfl rfl rfl rfl ?_
  repeat' (first
   | (refine kO ?_; first | refine gv rfl rfl ?_ | refine gnil ?_ | refine gp rfl (by (try simp only [InR]); omega) rfl ?_ | (refine kK ?_; first | refine gcall rfl ?_ rfl (fun _ _ => ?_) (fun _ _ => ?_) | refine gcv rfl rfl ?_ rfl (fun _ _ => ?_) (fun _ _ => ?_) | refine gcc1 rfl rfl ?_ rfl (fun _ _ => ?_) (fun _ _ => ?_)) | refine geql rfl rfl (by kernel_rfl) ?_ rfl ?_ | (refine kg ?_; (first | refine guardT rfl rfl rfl rfl (fun h => ?_) (fun h => ?_) | refine guardF rfl rfl rfl rfl (fun h => ?_) (fun h => ?_) | refine guardU rfl rfl rfl rfl ?_ | refine guardTH rfl rfl rfl rfl ?_ (fun h => ?_) (fun h => ?_) | refine guardFH rfl rfl rfl rfl ?_ (fun h => ?_) (fun h => ?_) | refine guardUH rfl rfl rfl rfl ?_ ?_) <;> (first | exact h.elim | (exfalso; omega) | exact absurd h (by assumption) | exact absurd (by assumption) h | skip)))
   | (refine kC ?_; first | refine gseq ?_ | refine greg ?_ | refine gret ?_ | refine gskip ?_)
   | (refine kN ?_; first | refine gthen ?_)
   | (refine kR ?_; first | refine grs ?_ | refine grc ?_)
   | (refine kR ?_; refine gr rfl (rvT rfl rv0) (_) rfl Ent.nil ?_)
   | (refine Pre.mk ?_; first | exact True.intro | omega | ((repeat' (first | refine And.intro ?_ ?_ | exact True.intro | assumption | omega)); done) | (simp only [and_true, true_and, or_true, true_or]; first | done | omega))
   | (refine kD ?_; first | exact dm_none))
  all_goals
    have h0 : (0 : Int).toNat = 0 := rfl
    simp only [h0] at *
    rw [sound_pS, List.length_map]
    unfold partN partB at *
    rw [List.drop_zero] at *
    cases hp : pS (opsK l) [] 0 with
    | none => simp_all
    | some n => first | (simp_all; done) | (simp_all; omega)
instance c_ref14_Sound {lA : Option Addr} {lc ln : Nat} {l : List StG} {w0 : World} {X : Nat → Prop} {L : List Assn} [hl : Rw w0 X L (.slice lA ln lc) RSt l] : Ctr Tryd.prog 18 [.slice lA ln lc] w0 X L (l.length ≤ 1000000) (fun _ : Unit => .bool (soundB (opsK l))) (fun _ : Unit => L) (fun _ : Unit => True) :=
  ctr' (M' := (fun _ : Unit => [])) (by kernel_rfl) (fun hp w hw => by have el := hl.len hw; subst el; exact ref14_Sound _ _ _ w (hl.get w hw) hp) (by rintro hp e0 rfl ok; exact ⟨(), rfl, rfl, trivial⟩)
end Go.Proofs.YtkjpemkankefnaaDoor
