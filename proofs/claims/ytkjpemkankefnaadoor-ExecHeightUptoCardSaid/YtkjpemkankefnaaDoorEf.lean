/-
  Scripts read.
-/
import Derived.Test.YtkjpemkankefnaaDoorEe
import Derived.Test.YtkjpemkankefnaaDoorVends
set_option linter.all false
set_option maxRecDepth 100000
set_option maxHeartbeats 4000000
namespace Go.Proofs.YtkjpemkankefnaaDoor
open Go.RowKit

/-- a step at the head of bytes: it, how many bytes it has, what is wrong -/
structure OneR where
  op : Int
  push : List UInt8
  n : Nat
  e : Int
def oneP (d : List UInt8) (o n : Nat) : OneR := if d.length < o + n then ⟨0, [], 0, 4⟩ else ⟨1, (d.drop o).take n, o + n, 0⟩
def lenH (d : List UInt8) : Nat := (ixd d 1).toNat + 256 * (ixd d 2).toNat
def oneS (d : List UInt8) : OneR :=
  if 128 < (ixd d 0).toNat then (if (ixd d 0).toNat ≤ 147 then ⟨(ixd d 0).toNat - 127, [], 1, 0⟩ else ⟨0, [], 0, 5⟩)
  else if (ixd d 0).toNat = 128 then (if d.length < 3 then ⟨0, [], 0, 4⟩ else if lenH d < 128 ∨ 3000 < lenH d then ⟨0, [], 0, 5⟩ else oneP d 3 (lenH d))
  else oneP d 1 (ixd d 0).toNat
structure ReadR where
  l : List Stp
  e : Int
def readS : Nat → List UInt8 → List Stp → ReadR
  | 0, _, _ => ⟨[], 0⟩
  | f + 1, d, acc => if d = [] then ⟨acc, 0⟩ else if acc.length = 200 then ⟨[], 3⟩ else if (oneS d).e ≠ 0 then ⟨[], (oneS d).e⟩ else readS f (d.drop (oneS d).n) (acc ++ [((oneS d).op, (oneS d).push)])
theorem oneS_n {d : List UInt8} (h : (oneS d).e = 0) : 1 ≤ (oneS d).n ∧ (oneS d).n ≤ d.length ∨ d = [] := by
  by_cases hd : d = []
  · exact .inr hd
  have hl : 0 < d.length := by
    cases d with
    | nil => exact absurd rfl hd
    | cons => simp
  left
  unfold oneS oneP at *
  split at h
  · split at h
    · rename_i h1 h2; rw [if_pos h1, if_pos h2]; exact ⟨Nat.le_refl _, hl⟩
    · simp at h
  · split at h
    · split at h
      · simp at h
      · split at h
        · simp at h
        · split at h
          · simp at h
          · rename_i h1 h2 h3 h4 h5; rw [if_neg h1, if_pos h2, if_neg h3, if_neg h4, if_neg h5]; simp only; omega
    · split at h
      · simp at h
      · rename_i h1 h2 h3; rw [if_neg h1, if_neg h2, if_neg h3]; simp only; omega
theorem readS_fuel : ∀ (f : Nat) (d : List UInt8) (acc : List Stp), d.length < f → readS f d acc = readS (d.length + 1) d acc := by
  intro f
  induction f using Nat.strongRecOn with
  | _ f ih =>
    intro d acc hf
    obtain ⟨f, rfl⟩ : ∃ g, f = g + 1 := ⟨f - 1, by omega⟩
    unfold readS
    split
    · rfl
    · split
      · rfl
      · split
        · rfl
        · rename_i h1 h2 h3
          have hn := oneS_n (d := d) (by simpa using h3)
          rcases hn with hn | hn
          · have hl : (d.drop (oneS d).n).length < f := by rw [List.length_drop]; omega
            have hl2 : (d.drop (oneS d).n).length < d.length := by rw [List.length_drop]; omega
            rw [ih f (by omega) _ _ hl]
            exact (ih d.length (by omega) _ _ hl2).symm
          · exact absurd hn h1
def readAll (d : List UInt8) (acc : List Stp) : ReadR := readS (d.length + 1) d acc
theorem readAll_step {d : List UInt8} {acc : List Stp} (h1 : d ≠ []) (h2 : acc.length ≠ 200) (h3 : (oneS d).e = 0) : readAll d acc = readAll (d.drop (oneS d).n) (acc ++ [((oneS d).op, (oneS d).push)]) := by
  have hn := (oneS_n h3).resolve_right h1
  have hl : (d.drop (oneS d).n).length < d.length := by rw [List.length_drop]; omega
  unfold readAll
  rw [readS, if_neg h1, if_neg h2, if_neg (not_not_intro h3), readS_fuel _ _ _ hl]
theorem readAll_nil {acc : List Stp} : readAll [] acc = ⟨acc, 0⟩ := by unfold readAll readS; rw [if_pos rfl]
theorem readAll_long {d : List UInt8} {acc : List Stp} (h1 : d ≠ []) (h2 : acc.length = 200) : readAll d acc = ⟨[], 3⟩ := by unfold readAll readS; rw [if_neg h1, if_pos h2]
theorem readAll_bad {d : List UInt8} {acc : List Stp} (h1 : d ≠ []) (h2 : acc.length ≠ 200) (h3 : (oneS d).e ≠ 0) : readAll d acc = ⟨[], (oneS d).e⟩ := by unfold readAll readS; rw [if_neg h1, if_neg h2, if_pos h3]
def readL (b : List UInt8) : List Stp := (readAll b []).l
def readE (b : List UInt8) : Int := (readAll b []).e
section
variable {w0 : World} {X : Nat → Prop} {L : List Assn}
instance rwNilB : Rw w0 X L (.slice none 0 0) RB [] := ⟨fun _ _ => ⟨none, 0, rfl, by simp [Rep.all], Nat.le_refl _, by decide, fun h => absurd h (by simp [Rep.all])⟩⟩
end
section
variable {d : List UInt8}
theorem on_op (h : 128 < (ixd d 0).toNat) (h2 : (ixd d 0).toNat ≤ 147) : oneS d = ⟨(ixd d 0).toNat - 127, [], 1, 0⟩ := by unfold oneS; rw [if_pos h, if_pos h2]
theorem on_bad (h : 128 < (ixd d 0).toNat) (h2 : ¬ (ixd d 0).toNat ≤ 147) : oneS d = ⟨0, [], 0, 5⟩ := by unfold oneS; rw [if_pos h, if_neg h2]
theorem on_s3 (h : (ixd d 0).toNat = 128) (h2 : d.length < 3) : oneS d = ⟨0, [], 0, 4⟩ := by unfold oneS; rw [if_neg (by omega), if_pos h, if_pos h2]
theorem on_f (h : (ixd d 0).toNat = 128) (h2 : ¬ d.length < 3) (h3 : lenH d < 128 ∨ 3000 < lenH d) : oneS d = ⟨0, [], 0, 5⟩ := by unfold oneS; rw [if_neg (by omega), if_pos h, if_neg h2, if_pos h3]
theorem on_p (h : (ixd d 0).toNat = 128) (h2 : ¬ d.length < 3) (h3 : ¬ (lenH d < 128 ∨ 3000 < lenH d)) : oneS d = oneP d 3 (lenH d) := by unfold oneS; rw [if_neg (by omega), if_pos h, if_neg h2, if_neg h3]
theorem on_1 (h : (ixd d 0).toNat < 128) : oneS d = oneP d 1 (ixd d 0).toNat := by unfold oneS; rw [if_neg (by omega), if_neg (by omega)]
theorem op_s {o n : Nat} (h : d.length < o + n) : oneP d o n = ⟨0, [], 0, 4⟩ := if_pos h
theorem op_ok {o n : Nat} (h : ¬ d.length < o + n) : oneP d o n = ⟨1, (d.drop o).take n, o + n, 0⟩ := if_neg h
end
theorem ref11_one (bA : Option Addr) (bc : Nat) (b : List UInt8) (w0 : World) (hb : Slr w0 RB (.slice bA b.length bc) b) (hp : 0 < b.length ∧ b.length ≤ 140737488351232) :
    Ct Tryd.prog 44 [.slice bA b.length bc] w0 no (fun ((e0, ⟨s1, n1, x1⟩, e2, e3) : Int × Br UInt8 × Int × Int) => .tuple #[Ag [.one (.int .u8 e0), .one (.slice s1.A n1 s1.c)], .int .i64 e2, .int .i64 e3]) (fun (e0, ⟨s1, n1, x1⟩, e2, e3) => [rw_ 5 RB s1 n1 x1]) (fun (e0, ⟨s1, n1, x1⟩, e2, e3) => e0 = (oneS b).op ∧ x1 = ((oneS b).push) ∧ e2 = (oneS b).n ∧ e3 = (oneS b).e) := by
  have hst := St.start w0
  have i_b := Rw.old hb
  refine genter _ hst Tryd.func44 rfl rfl rfl rfl ?_
  have hb0 := (ixd b 0).toNat_lt
  have hb1 := (ixd b 1).toNat_lt
  have hb2 := (ixd b 2).toNat_lt
  have hu : (lenH b : Int) = (ixd b 1).toNat + 256 * (ixd b 2).toNat := by unfold lenH; omega
  repeat' (first
   | (refine kO ?_; first | refine gv rfl rfl ?_ | refine gnil ?_ | refine gnilD ?_ | refine gl rfl (lvb rfl rfl) rfl (fun _ => ?_) | refine gl rfl (lvB rfl rfl rfl) rfl (fun _ => ?_) | refine gl rfl (lve rfl rfl) rfl (fun _ => ?_) | refine gl rfl (lvE rfl rfl rfl) rfl (fun _ => ?_) | refine gl rfl (lva rfl rfl rfl rfl rfl) rfl (fun _ => ?_) | refine gp rfl (by (try simp only [InR]); omega) rfl ?_ | refine gix rfl rfl rfl rfl (by omega) rfl (fun _ => ?_) | refine gixa rfl rfl rfl rfl (by omega) rfl (fun _ => ?_) | refine gc3 rfl rfl rfl rfl rfl rfl (by omega) rfl (fun _ => ?_) | refine gc2 rfl rfl rfl rfl rfl (by omega) rfl (fun _ => ?_) | refine gch rfl rfl rfl rfl (by omega) rfl (fun _ => ?_) | refine gcl rfl rfl rfl rfl (by omega) rfl (fun _ => ?_) | refine gca rfl rfl rfl rfl ?_ | refine gchm rfl rfl rfl rfl rfl (by omega) rfl (fun _ => ?_) | (refine kK ?_; first | refine gcall rfl ?_ rfl (fun _ _ => ?_) (fun _ _ => ?_) | refine gcv rfl rfl ?_ rfl (fun _ _ => ?_) (fun _ _ => ?_) | refine gcc1 rfl rfl ?_ rfl (fun _ _ => ?_) (fun _ _ => ?_)) | refine geql rfl rfl (by kernel_rfl) ?_ rfl ?_ | refine gbu rfl rfl rfl rfl rfl ?_ | refine ga rfl (fun _ => ?_) (fun _ => ?_) | refine gst rfl rfl rfl rfl ?_ ?_ | refine ge rfl rfl rfl rfl ?_ ?_ | refine gea rfl rfl rfl rfl rfl rfl rfl ?_ ?_ | refine gb rfl rfl rfl rfl ?_ | refine gw rfl rfl ?_ | (refine kg ?_; (first | refine guardT rfl rfl rfl rfl (fun h => ?_) (fun h => ?_) | refine guardF rfl rfl rfl rfl (fun h => ?_) (fun h => ?_) | refine guardU rfl rfl rfl rfl ?_ | refine guardTH rfl rfl rfl rfl ?_ (fun h => ?_) (fun h => ?_) | refine guardFH rfl rfl rfl rfl ?_ (fun h => ?_) (fun h => ?_) | refine guardUH rfl rfl rfl rfl ?_ ?_) <;> (first | exact h.elim | (exfalso; omega) | exact absurd h (by assumption) | exact absurd (by assumption) h | skip)))
   | (refine kC ?_; first | refine gseq ?_ | refine greg ?_ | refine gret ?_ | refine gskip ?_ | refine gdraw (id := 11) [0,1,2,3,4,5,6,7,8,9,10,11] (by kernel_rfl) (by kernel_rfl) rfl ?_ | (refine gcond rfl (fun h => ?_) (fun h => ?_) <;> (first | exact h.elim | (exfalso; omega) | exact absurd h (by assumption) | exact absurd (by assumption) h | skip)))
   | (refine kN ?_; first | refine gthen ?_)
   | (refine kR ?_; first | refine grs ?_ | refine grc ?_)
   | (refine kR ?_; refine gr rfl (rvC rfl (lvb rfl rfl) (rvT rfl (rvT rfl rv0))) (_, ⟨_, _, _⟩, _, _) rfl (er Ent.nil) ?_)
   | (refine kR ?_; refine gr rfl (rvC rfl (lvb rfl rfl) (rvT rfl (rvT rfl rv0))) (_, ⟨⟨none, 0⟩, 0, []⟩, _, _) rfl (er0 Ent.nil) ?_)
   | (refine kR ?_; refine gr rfl (rvC rfl (lvB rfl rfl rfl) (rvT rfl (rvT rfl rv0))) (_, ⟨_, _, _⟩, _, _) rfl (er Ent.nil) ?_)
   | (refine kR ?_; refine gr rfl (rvC rfl (lvB rfl rfl rfl) (rvT rfl (rvT rfl rv0))) (_, ⟨⟨none, 0⟩, 0, []⟩, _, _) rfl (er0 Ent.nil) ?_)
   | exact Pre.mk (by simp only [List.length_take, List.length_drop]; omega)
   | (refine Pre.mk ?_; first | exact True.intro | omega | ((repeat' (first | refine And.intro ?_ ?_ | exact True.intro | assumption | omega)); done) | (simp only [and_true, true_and, or_true, true_or]; first | done | omega))
   | (refine kD ?_; first | exact dm_none | exact dm0 | refine dmOff rfl ?_ | refine dmOn (lvb rfl rfl) ?_ | refine dmOn (lvB rfl rfl rfl) ?_ | refine dmOn (lve rfl rfl) ?_ | refine dmOn (lvE rfl rfl rfl) ?_ | refine dmOn (lva rfl rfl rfl rfl rfl) ?_))
  all_goals first
    | (have hop : (ixd b 0).toNat ≤ 147 := by
         unfold mayS at h; rw [if_neg (by omega)] at h; have := h.2.1; omega
       rw [on_op (by omega) hop]; exact ⟨by first | rfl | (simp only; omega), rfl, rfl, rfl⟩)
    | (rw [on_op (by omega) (by first | omega | (unfold mayS at h; rw [if_neg (by omega)] at h; have := h.2.1; omega))]; exact ⟨by simp only; omega, rfl, rfl, rfl⟩)
    | (rw [on_bad (by omega) (by first | omega | (intro hc; exact h (by unfold mayS; rw [if_neg (by omega)]; exact ⟨by omega, by omega, rfl⟩)))]; exact ⟨rfl, rfl, rfl, rfl⟩)
    | (rw [on_s3 (by omega) (by omega)]; exact ⟨rfl, rfl, rfl, rfl⟩)
    | (rw [on_f (by omega) (by omega) (by omega)]; exact ⟨rfl, rfl, rfl, rfl⟩)
    | (rw [on_p (by omega) (by omega) (by omega), op_s (by omega)]; exact ⟨rfl, rfl, rfl, rfl⟩)
    | (rw [on_p (by omega) (by omega) (by omega), op_ok (by omega)]; exact ⟨rfl, by simp only [Int.reduceToNat]; congr 1; omega, by simp only; omega, rfl⟩)
    | (rw [on_1 (by omega), op_s (by omega)]; exact ⟨rfl, rfl, rfl, rfl⟩)
    | (rw [on_1 (by omega), op_ok (by omega)]; exact ⟨rfl, by simp only [Int.reduceToNat]; congr 1; omega, by simp only; omega, rfl⟩)
    | skip
instance c_ref11_one {bA : Option Addr} {bc bn : Nat} {b : List UInt8} {w0 : World} {X : Nat → Prop} {L : List Assn} [hb : Rw w0 X L (.slice bA bn bc) RB b] : Ctr Tryd.prog 44 [.slice bA bn bc] w0 X L (0 < b.length ∧ b.length ≤ 140737488351232) (fun s1 : Sv => .tuple #[Ag [.one (.int .u8 ((oneS b).op)), .one (.slice s1.A ((oneS b).push).length s1.c)], .int .i64 ((oneS b).n), .int .i64 ((oneS b).e)]) (fun s1 : Sv => rw_ 5 RB s1 ((oneS b).push).length ((oneS b).push) :: L) (fun s1 : Sv => True) :=
  ctr' (M' := (fun s1 : Sv => [rw_ 5 RB s1 ((oneS b).push).length ((oneS b).push)])) (by kernel_rfl) (fun hp w hw => by have eb := hb.len hw; subst eb; exact ref11_one _ _ _ w (hb.get w hw) hp) (by rintro hp ⟨e0, ⟨s1, n1, x1⟩, e2, e3⟩ ⟨rfl, rfl, rfl, rfl⟩ ok; cases ok.row; exact ⟨s1, rfl, rfl, trivial⟩)
theorem ixd_drop {b : List UInt8} {a i : Nat} (h : a + i < b.length) : ixd (b.drop a) (i : Int) = ixd b ((a + i : Nat) : Int) := by
  rw [ixd_eq (by rw [List.length_drop]; omega), ixd_eq (by omega)]
  simp only [List.getElem_drop, Int.toNat_natCast]
theorem mayOne {d : List UInt8} (h : (oneS d).e = 0) (hd : d ≠ []) : mayS (oneS d).op (oneS d).push ∧ 0 ≤ (oneS d).op ∧ (oneS d).op ≤ 255 := by
  have h0 := (ixd d 0).toNat_lt
  by_cases a1 : 128 < (ixd d 0).toNat
  · by_cases a2 : (ixd d 0).toNat ≤ 147
    · rw [on_op a1 a2]; unfold mayS; simp only; rw [if_neg (by omega)]; exact ⟨⟨by omega, by omega, rfl⟩, by omega, by omega⟩
    · rw [on_bad a1 a2] at h; simp at h
  · have pk : ∀ o n, n ≤ 3000 → (oneP d o n).e = 0 → mayS (oneP d o n).op (oneP d o n).push ∧ 0 ≤ (oneP d o n).op ∧ (oneP d o n).op ≤ 255 := fun o n hn he => by
      by_cases hl : d.length < o + n
      · rw [op_s hl] at he; simp at he
      · rw [op_ok hl]; unfold mayS; simp only [if_true]; exact ⟨by rw [List.length_take]; omega, by omega, by omega⟩
    by_cases a2 : (ixd d 0).toNat = 128
    · by_cases a3 : d.length < 3
      · rw [on_s3 a2 a3] at h; simp at h
      · by_cases a4 : lenH d < 128 ∨ 3000 < lenH d
        · rw [on_f a2 a3 a4] at h; simp at h
        · rw [on_p a2 a3 a4] at h ⊢; exact pk _ _ (by omega) h
    · rw [on_1 (by omega)] at h ⊢; exact pk _ _ (by omega) h
theorem readS_may : ∀ (f : Nat) (d : List UInt8) (acc : List Stp), MayL acc → (∀ x ∈ acc, 0 ≤ x.1 ∧ x.1 ≤ 255) → acc.length ≤ 200 → MayL (readS f d acc).l ∧ (∀ x ∈ (readS f d acc).l, 0 ≤ x.1 ∧ x.1 ≤ 255) ∧ (readS f d acc).l.length ≤ 200
  | 0, d, acc, h, h2, h3 => by unfold readS; exact ⟨(fun _ h => by cases h), (fun _ h => by cases h), Nat.zero_le _⟩
  | f + 1, d, acc, h, h2, h3 => by
    unfold readS
    split
    · exact ⟨h, h2, h3⟩
    · split
      · exact ⟨(fun _ h => by cases h), (fun _ h => by cases h), Nat.zero_le _⟩
      · split
        · exact ⟨(fun _ h => by cases h), (fun _ h => by cases h), Nat.zero_le _⟩
        · rename_i a1 a2 a3
          have hm := mayOne (d := d) (by simpa using a3) a1
          refine readS_may f _ _ (fun x hx => ?_) (fun x hx => ?_) (by simp; omega)
          · rcases List.mem_append.1 hx with hx | hx
            · exact h x hx
            · rw [List.mem_singleton] at hx; subst hx; exact hm.1
          · rcases List.mem_append.1 hx with hx | hx
            · exact h2 x hx
            · rw [List.mem_singleton] at hx; subst hx; exact hm.2
theorem readL_may (b : List UInt8) : MayL (readL b) ∧ (∀ x ∈ readL b, 0 ≤ x.1 ∧ x.1 ≤ 255) ∧ (readL b).length ≤ 200 := readS_may _ _ _ (fun _ h => by cases h) (fun _ h => by cases h) (Nat.zero_le _)
theorem readL_stn {b : List UInt8} {gs : List StG} (h : gs.map stK = readL b) : StN gs := fun g hg => (readL_may b).2.1 (stK g) (by rw [← h]; exact List.mem_map.2 ⟨g, hg, rfl⟩)
/-- a row's rest -/
theorem Slr.rest {w : World} {A : Option Addr} {m c c' : Nat} {gs : List UInt8} {k : Int} (h : Slr w RB (.slice A m c) gs) [hc : Cu k (m - k.toNat) m c c c'] : Slr w RB (.slice (cutA A m c c 1 k) (m - k.toNat) c') (gs.drop k.toNat) := by
  have hl : gs.length = m := by obtain ⟨_, _, e, _⟩ := h; cases e; rfl
  have i_b : ∀ L, Rw w no L (.slice A m c) RB gs := Rw.old (hl ▸ h)
  have h2 : Rw w no [] (.slice (cutA A m c c 1 k) (m - k.toNat) c') RB ((gs.drop k.toNat).take (m - k.toNat)) := inferInstance
  have h3 := h2.get w (St.start w)
  rwa [List.take_of_length_le (by rw [List.length_drop]; omega)] at h3
theorem ref11_Read (bA : Option Addr) (bc : Nat) (b : List UInt8) (w0 : World) (hb : Slr w0 RB (.slice bA b.length bc) b) (hp : b.length ≤ 140737488351232) :
    Ct Tryd.prog 25 [.slice bA b.length bc] w0 no (fun ((o0, e1) : Ow StG × Int) => .tuple #[.slice o0.s.A o0.gs.length o0.s.c, .int .i64 e1]) (fun (o0, e1) => [rw_ 45 RSt o0.s o0.gs.length o0.gs, lot (o0.gs.map stRow)]) (fun (o0, e1) => o0.gs.map stK = readL b ∧ e1 = readE b) := by
  have hst := St.start w0
  have i_b := Rw.old hb
  refine genter _ hst Tryd.func25 rfl rfl rfl rfl ?_
  repeat' (first
   | (refine kO ?_; first | refine gv rfl rfl ?_ | refine gnil ?_ | refine gl rfl (lvb rfl rfl) rfl (fun _ => ?_) | refine gl rfl (lvB rfl rfl rfl) rfl (fun _ => ?_) | refine gl rfl (lve rfl rfl) rfl (fun _ => ?_) | refine gl rfl (lvE rfl rfl rfl) rfl (fun _ => ?_) | refine gl rfl (lva rfl rfl rfl rfl rfl) rfl (fun _ => ?_) | refine gp rfl (by (try simp only [InR]); omega) rfl ?_ | refine gc3 rfl rfl rfl rfl rfl rfl (by omega) rfl (fun _ => ?_) | refine gc2 rfl rfl rfl rfl rfl (by omega) rfl (fun _ => ?_) | refine gch rfl rfl rfl rfl (by omega) rfl (fun _ => ?_) | refine gcl rfl rfl rfl rfl (by omega) rfl (fun _ => ?_) | refine gca rfl rfl rfl rfl ?_ | refine gchm rfl rfl rfl rfl rfl (by omega) rfl (fun _ => ?_) | (refine kK ?_; first | refine gcall rfl ?_ rfl (fun _ _ => ?_) (fun _ _ => ?_) | refine gcv rfl rfl ?_ rfl (fun _ _ => ?_) (fun _ _ => ?_) | refine gcc1 rfl rfl ?_ rfl (fun _ _ => ?_) (fun _ _ => ?_)) | refine geql rfl rfl (by kernel_rfl) ?_ rfl ?_ | refine gneq rfl rfl (by kernel_rfl) ?_ rfl ?_ | refine ga rfl (fun _ => ?_) (fun _ => ?_) | refine gst rfl rfl rfl rfl ?_ ?_ | refine ge rfl rfl rfl rfl ?_ ?_ | refine gea rfl rfl rfl rfl rfl rfl rfl ?_ ?_ | refine gap rfl rfl rfl (by omega) rfl (fun _ => ?_) (fun _ => ?_) | refine gan rfl rfl rfl (by omega) rfl (fun _ => ?_) (fun _ => ?_) | refine gapz rfl rfl rfl rfl (by omega) rfl (fun _ => ?_) (fun _ => ?_) | refine ganz rfl rfl rfl rfl (by omega) rfl (fun _ => ?_) (fun _ => ?_) | refine gbs RB rfl rfl rfl rfl rfl rfl (fun _ => ?_) (fun _ => ?_) | refine gbb rfl rfl rfl (by first | (simp; done) | (simp only [and_true]; omega)) rfl rfl rfl rfl (fun _ => ?_) (fun _ => ?_))
   | (refine kC ?_; first | refine gseq ?_ | refine greg ?_ | refine gret ?_ | refine gskip ?_ | (refine gcond rfl (fun h => ?_) (fun h => ?_) <;> (first | exact h.elim | (exfalso; omega) | exact absurd h (by assumption) | exact absurd (by assumption) h | skip)) | refine gblk ?_ | refine gexit ?_)
   | (refine kN ?_; first | refine gthen ?_ | refine gnblk ?_)
   | (refine kR ?_; first | refine grs ?_ | refine grb ?_ | refine grl ?_ | refine grc ?_)
   | (refine kX ?_; first | refine gxs ?_ | refine gxb ?_ | refine gxn rfl ?_ | refine gxl ?_ | refine gxc ?_)
   | (refine kR ?_; refine gr rfl (rvT rfl (rvT rfl rv0)) (⟨⟨_, _⟩, _⟩, _) rfl (er (elot Ent.nil)) ?_)
   | (refine kR ?_; refine gr rfl (rvT rfl (rvT rfl rv0)) (⟨⟨none, 0⟩, []⟩, _) rfl (er0 (elot0 Ent.nil)) ?_)
   | (refine Pre.mk ?_; first | exact True.intro | omega | ((repeat' (first | refine And.intro ?_ ?_ | exact True.intro | assumption | omega)); done) | (simp only [and_true, true_and, or_true, true_or]; first | done | omega))
   | (refine kD ?_; first | exact dm_none))
  refine gloop4 [] (fun (v : Sv) (d : List UInt8) (o : List StG) (s : Sv) K => (0, .slice v.A d.length v.c) :: (4, .slice s.A o.length s.c) :: K) (fun v d o s => [rw_ 45 RSt s o.length o, lot (o.map stRow)]) (fun v d o s => Slr w0 RB (.slice v.A d.length v.c) d ∧ d.length ≤ 140737488351232 ∧ o.length ≤ 200 ∧ readAll d (o.map stK) = readAll b []) (fun v d o s => d.length) ⟨bA, bc⟩ b [] ⟨none, 0⟩ rfl (by repeat (first | exact trivial | refine ⟨rfl, ?_⟩)) (er0 (elot0 Ent.nil)) ⟨hb, hp, by simp, rfl⟩ (fun v d o s hi => ?_)
  obtain ⟨i1, i2, i3, i4⟩ := hi
  have i_d := Rw.old i1
  have hn : (oneS d).e = 0 → 0 < d.length → 1 ≤ (oneS d).n ∧ (oneS d).n ≤ d.length := fun h h2 => (oneS_n h).resolve_right (fun e => by rw [e] at h2; simp at h2)
  have hne : 0 < d.length → d ≠ [] := fun h e => by rw [e] at h; simp at h
  repeat' (first
   | (refine kO ?_; first | refine gbs RSt rfl rfl rfl rfl rfl rfl (fun _ => ?_) (fun _ => ?_) | refine gv rfl rfl ?_ | refine gnil ?_ | refine gl rfl (lvb rfl rfl) rfl (fun _ => ?_) | refine gl rfl (lvB rfl rfl rfl) rfl (fun _ => ?_) | refine gl rfl (lve rfl rfl) rfl (fun _ => ?_) | refine gl rfl (lvE rfl rfl rfl) rfl (fun _ => ?_) | refine gl rfl (lva rfl rfl rfl rfl rfl) rfl (fun _ => ?_) | refine gp rfl (by (try simp only [InR]); omega) rfl ?_ | refine gc3 rfl rfl rfl rfl rfl rfl (by omega) rfl (fun _ => ?_) | refine gc2 rfl rfl rfl rfl rfl (by omega) rfl (fun _ => ?_) | refine gch rfl rfl rfl rfl (by omega) rfl (fun _ => ?_) | refine gcl rfl rfl rfl rfl (by omega) rfl (fun _ => ?_) | refine gca rfl rfl rfl rfl ?_ | refine gchm rfl rfl rfl rfl rfl (by omega) rfl (fun _ => ?_) | (refine kK ?_; first | refine gcall rfl ?_ rfl (fun _ _ => ?_) (fun _ _ => ?_) | refine gcv rfl rfl ?_ rfl (fun _ _ => ?_) (fun _ _ => ?_) | refine gcc1 rfl rfl ?_ rfl (fun _ _ => ?_) (fun _ _ => ?_)) | refine geql rfl rfl (by kernel_rfl) ?_ rfl ?_ | refine gneq rfl rfl (by kernel_rfl) ?_ rfl ?_ | refine ga rfl (fun _ => ?_) (fun _ => ?_) | refine gst rfl rfl rfl rfl ?_ ?_ | refine ge rfl rfl rfl rfl ?_ ?_ | refine gea rfl rfl rfl rfl rfl rfl rfl ?_ ?_ | refine gap rfl rfl rfl (by omega) rfl (fun _ => ?_) (fun _ => ?_) | refine gan rfl rfl rfl (by omega) rfl (fun _ => ?_) (fun _ => ?_) | refine gapz rfl rfl rfl rfl (by omega) rfl (fun _ => ?_) (fun _ => ?_) | refine ganz rfl rfl rfl rfl (by omega) rfl (fun _ => ?_) (fun _ => ?_) | refine gbs RB rfl rfl rfl rfl rfl rfl (fun _ => ?_) (fun _ => ?_) | refine gbb rfl rfl rfl (by first | (simp; done) | (simp only [and_true]; omega)) rfl rfl rfl rfl (fun _ => ?_) (fun _ => ?_))
   | (refine kC ?_; first | refine gseq ?_ | refine greg ?_ | refine gret ?_ | refine gskip ?_ | (refine gcond rfl (fun h => ?_) (fun h => ?_) <;> (first | exact h.elim | (exfalso; omega) | exact absurd h (by assumption) | exact absurd (by assumption) h | skip)) | refine gblk ?_ | refine gexit ?_)
   | (refine kN ?_; first | refine gthen ?_ | refine gnblk ?_)
   | (refine kR ?_; first | refine grs ?_ | refine grb ?_ | refine grl ?_ | refine grc ?_)
   | (refine kX ?_; first | refine gxs ?_ | refine gxb ?_ | refine gxn rfl ?_ | refine gxl ?_ | refine gxc ?_)
   | (refine kR ?_; refine gr rfl (rvT rfl (rvT rfl rv0)) (⟨⟨_, _⟩, _⟩, _) rfl (er (elot Ent.nil)) ?_)
   | (refine kR ?_; refine gr rfl (rvT rfl (rvT rfl rv0)) (⟨⟨none, 0⟩, []⟩, _) rfl (er0 (elot0 Ent.nil)) ?_)
   | (refine Pre.mk ?_; first | exact True.intro | omega | ((repeat' (first | refine And.intro ?_ ?_ | exact True.intro | assumption | omega)); done) | (simp only [and_true, true_and, or_true, true_or]; first | done | omega))
   | (refine kD ?_; first | exact dm_none))
  · have hr := readAll_long (acc := o.map stK) (hne (by omega)) (by simp; omega)
    show [] = (readAll b []).l ∧ 3 = (readAll b []).e
    rw [← i4, hr]; exact ⟨rfl, rfl⟩
  · have hr := readAll_bad (acc := o.map stK) (hne (by omega)) (by simp; omega) h
    show [] = (readAll b []).l ∧ _ = (readAll b []).e
    rw [← i4, hr]; exact ⟨rfl, rfl⟩
  · rename_i sp _ gb_ _ s1 s' hcu
    have h0 : (oneS d).e = 0 := h
    have hr := readAll_step (acc := o.map stK) (hne (by omega)) (by simp; omega) h0
    have hnn := hn h0 (by omega)
    have hsl := i1.rest (hc := hcu)
    simp only [Int.toNat_natCast] at hsl ⊢
    have e1 : d.length - (oneS d).n = (d.drop (oneS d).n).length := List.length_drop.symm
    rw [e1] at hsl ⊢
    refine gnl4 ⟨_, _⟩ (d.drop (oneS d).n) (o ++ [⟨(oneS d).op, (oneS d).push, sp⟩]) s' (by rw [List.length_append]; exact (by repeat (first | exact trivial | refine ⟨rfl, ?_⟩))) ?_ ⟨hsl, by rw [List.length_drop]; omega, by rw [List.length_append, List.length_singleton]; omega, by rw [← i4, hr, List.map_append]; rfl⟩ (by rw [List.length_drop]; omega)
    simp only [List.length_append, List.length_singleton, List.map_append, List.map_cons, List.map_nil]
    exact er (elot1 Ent.nil)
  · show o.map stK = (readAll b []).l ∧ 0 = (readAll b []).e
    have e : d = [] := List.eq_nil_of_length_eq_zero (by omega)
    rw [← i4, e, readAll_nil]; exact ⟨rfl, rfl⟩
instance c_ref11_Read {bA : Option Addr} {bc bn : Nat} {b : List UInt8} {w0 : World} {X : Nat → Prop} {L : List Assn} [hb : Rw w0 X L (.slice bA bn bc) RB b] : Ctr Tryd.prog 25 [.slice bA bn bc] w0 X L (b.length ≤ 140737488351232) (fun o0 : Ow StG => .tuple #[.slice o0.s.A o0.gs.length o0.s.c, .int .i64 (readE b)]) (fun o0 : Ow StG => rw_ 45 RSt o0.s o0.gs.length o0.gs :: lot (o0.gs.map stRow) :: L) (fun o0 : Ow StG => (True) ∧ (o0.gs.map stK = readL b ∧ o0.gs.length = (readL b).length)) :=
  ctr' (M' := (fun o0 : Ow StG => [rw_ 45 RSt o0.s o0.gs.length o0.gs, lot (o0.gs.map stRow)])) (by kernel_rfl) (fun hp w hw => by have eb := hb.len hw; subst eb; exact ref11_Read _ _ _ w (hb.get w hw) hp) (by rintro hp ⟨o0, e1⟩ ⟨q0, rfl⟩ ok; exact ⟨o0, rfl, rfl, ⟨trivial, ⟨q0, by simpa using congrArg List.length q0⟩⟩⟩)
theorem getN2 {b : List UInt8} {at_ : Nat} (h : at_ + 2 < b.length) : getN b ((at_ : Int) + 1) 2 = lenH (b.drop at_) ∧ getE b ((at_ : Int) + 1) 2 = 0 := by
  have e : getE b ((at_ : Int) + 1) 2 = 0 := by
    unfold getE partE; rw [if_pos (by decide), if_neg (by omega), if_neg (by omega)]
  refine ⟨?_, e⟩
  unfold getN; rw [if_pos e]
  have hp : partE b ((at_ : Int) + 1) 2 = 0 := by unfold partE; rw [if_neg (by omega), if_neg (by omega)]
  unfold partL; rw [if_pos hp]
  have e2 : ((at_ : Int) + 1).toNat = at_ + 1 := by omega
  rw [e2]
  have e3 : (b.drop (at_ + 1)).take (2 : Int).toNat = [b[at_ + 1], b[at_ + 2]] := by
    rw [List.drop_eq_getElem_cons (by omega), List.drop_eq_getElem_cons (by omega)]; rfl
  rw [e3]
  unfold lenH
  have e4 := ixd_drop (b := b) (a := at_) (i := 1) (by omega)
  have e5 := ixd_drop (b := b) (a := at_) (i := 2) (by omega)
  simp only [Int.cast_ofNat_Int] at e4 e5
  have e6 : ixd b ((at_ + 1 : Nat) : Int) = b[at_ + 1] := by rw [ixd_eq (by omega)]; simp only [Int.toNat_natCast]
  have e7 : ixd b ((at_ + 2 : Nat) : Int) = b[at_ + 2] := by rw [ixd_eq (by omega)]; simp only [Int.toNat_natCast]
  rw [e4, e5, e6, e7]
  simp [numS]
theorem row_nil_ {e : TypeId} {G : Type} {R : Rep G} : rw_ e R ⟨none, 0⟩ 0 ([] : List G) hemp := ⟨rfl, .inl ⟨rfl, rfl⟩⟩
/-- nil more in the lot -/
theorem elotN {L L' M l : List Assn} {e : TypeId} {G : Type} {R : Rep G} [h : FLot L l] [h' : Pk L (lot l) L'] (k : Ent L' M) : Ent L (lot (l ++ [rw_ e R ⟨none, 0⟩ 0 ([] : List G)]) :: M) := ⟨fun w0 X w hs => by
  have s := (elot (L := L) (l := l) k).go _ _ _ hs
  obtain ⟨hp, ⟨h1, h2, d, rfl, ⟨a⟩, b⟩, hsub, hX⟩ := s.res
  refine ⟨s.os, s.tape, s.output, s.size, s.keep, hun h1 h2, ⟨h1, h2, d, rfl, ⟨?_⟩, b⟩, hsub, hX⟩
  have e1 : h1 = hun h1 hemp := by funext b; simp [hun, hemp]
  rw [e1]
  exact big_append ⟨h1, hemp, fun b => .inr rfl, rfl, a, hemp, hemp, fun b => .inr rfl, by funext b; simp [hun, hemp], row_nil_, trivial⟩⟩
structure RdZ where
  o : List StG
  s : Sv
  at_ : Nat
  g : Nat
  x : StG
theorem code_Read (bA : Option Addr) (bc : Nat) (b : List UInt8) (w0 : World) (hb : Slr w0 RB (.slice bA b.length bc) b) (hp : b.length ≤ 140737488351232) :
    Ct Tryd.prog 22 [.slice bA b.length bc] w0 no (fun ((o0, e1) : Ow StG × Int) => .tuple #[.slice o0.s.A o0.gs.length o0.s.c, .int .i64 e1]) (fun (o0, e1) => [rw_ 45 RSt o0.s o0.gs.length o0.gs, lot (o0.gs.map stRow)]) (fun (o0, e1) => o0.gs.map stK = readL b ∧ e1 = readE b) := by
  have hst := St.start w0
  have i_b := Rw.old hb
  refine genter _ hst Tryd.func22 rfl rfl rfl rfl ?_
  repeat' (first
   | (refine kO ?_; first | refine gv rfl rfl ?_ | refine gnil ?_ | refine gl rfl (lvb rfl rfl) rfl (fun _ => ?_) | refine gl rfl (lvB rfl rfl rfl) rfl (fun _ => ?_) | refine gl rfl (lve rfl rfl) rfl (fun _ => ?_) | refine gl rfl (lvE rfl rfl rfl) rfl (fun _ => ?_) | refine gl rfl (lva rfl rfl rfl rfl rfl) rfl (fun _ => ?_) | refine gp rfl (by (try simp only [InR]); omega) rfl ?_ | refine gf rfl rfl rfl ?_ | refine gix rfl rfl rfl rfl (by omega) rfl (fun _ => ?_) | refine gixa rfl rfl rfl rfl (by omega) rfl (fun _ => ?_) | (refine kK ?_; first | refine gcall rfl ?_ rfl (fun _ _ => ?_) (fun _ _ => ?_) | refine gcv rfl rfl ?_ rfl (fun _ _ => ?_) (fun _ _ => ?_) | refine gcc1 rfl rfl ?_ rfl (fun _ _ => ?_) (fun _ _ => ?_)) | refine geql rfl rfl (by kernel_rfl) ?_ rfl ?_ | refine gneq rfl rfl (by kernel_rfl) ?_ rfl ?_ | refine gbu rfl rfl rfl rfl rfl ?_ | refine ga rfl (fun _ => ?_) (fun _ => ?_) | refine gst rfl rfl rfl rfl ?_ ?_ | refine ge rfl rfl rfl rfl ?_ ?_ | refine gea rfl rfl rfl rfl rfl rfl rfl ?_ ?_ | refine gap rfl rfl rfl (by omega) rfl (fun _ => ?_) (fun _ => ?_) | refine gan rfl rfl rfl (by omega) rfl (fun _ => ?_) (fun _ => ?_) | refine gapz rfl rfl rfl rfl (by omega) rfl (fun _ => ?_) (fun _ => ?_) | refine ganz rfl rfl rfl rfl (by omega) rfl (fun _ => ?_) (fun _ => ?_) | refine gbs RB rfl rfl rfl rfl rfl rfl (fun _ => ?_) (fun _ => ?_) | refine gbb rfl rfl rfl (by first | (simp; done) | (simp only [and_true]; omega)) rfl rfl rfl rfl (fun _ => ?_) (fun _ => ?_) | refine gb rfl rfl rfl rfl ?_ | refine gw rfl rfl ?_ | (refine kg ?_; (first | refine guardT rfl rfl rfl rfl (fun h => ?_) (fun h => ?_) | refine guardF rfl rfl rfl rfl (fun h => ?_) (fun h => ?_) | refine guardU rfl rfl rfl rfl ?_ | refine guardTH rfl rfl rfl rfl ?_ (fun h => ?_) (fun h => ?_) | refine guardFH rfl rfl rfl rfl ?_ (fun h => ?_) (fun h => ?_) | refine guardUH rfl rfl rfl rfl ?_ ?_) <;> (first | exact h.elim | (exfalso; omega) | exact absurd h (by assumption) | exact absurd (by assumption) h | skip)))
   | (refine kC ?_; first | refine gseq ?_ | refine greg ?_ | refine gret ?_ | refine gskip ?_ | (refine gcond rfl (fun h => ?_) (fun h => ?_) <;> (first | exact h.elim | (exfalso; omega) | exact absurd h (by assumption) | exact absurd (by assumption) h | skip)) | refine gblk ?_ | refine glab ?_ | refine ggoto ?_)
   | (refine kN ?_; first | refine gthen ?_ | refine gnblk ?_ | refine gns1 ?_ | refine gns2 ?_)
   | (refine kJ ?_; first | refine gjs ?_ | refine gjb ?_ | refine gjl ?_ | refine gjl2 ?_ | refine gjl3 ?_ | refine gjc ?_)
   | (refine kR ?_; first | refine grs1 ?_ | refine grs2 ?_ | refine grs ?_ | refine grb ?_ | refine grc ?_)
   | (refine kR ?_; refine gr rfl (rvT rfl (rvT rfl rv0)) (⟨⟨_, _⟩, _⟩, _) rfl (er (elot Ent.nil)) ?_)
   | (refine kR ?_; refine gr rfl (rvT rfl (rvT rfl rv0)) (⟨⟨none, 0⟩, []⟩, _) rfl (er0 (elot0 Ent.nil)) ?_)
   | (refine Pre.mk ?_; first | exact True.intro | omega | ((repeat' (first | refine And.intro ?_ ?_ | exact True.intro | assumption | omega)); done) | (simp only [and_true, true_and, or_true, true_or]; first | done | omega))
   | (refine kD ?_; first | exact dm_none))
  refine gscope2 (σ := RdZ) (τ := RdZ) 0 1 [0] (fun z K => (4, .slice z.s.A z.o.length z.s.c) :: (5, .pointer (some ⟨z.g, 0, none⟩)) :: (8, .int .i64 z.at_) :: K) (fun z K => (4, .slice z.s.A z.o.length z.s.c) :: (5, .pointer (some ⟨z.g, 0, none⟩)) :: (8, .int .i64 z.at_) :: K)
    (fun z => [boxA z.g 45 [.one (.int .u8 z.x.op), .one (.slice z.x.s.A z.x.push.length z.x.s.c)], rw_ 45 RSt z.s z.o.length z.o, lot (z.o.map stRow)]) (fun z => [boxA z.g 45 [.one (.int .u8 z.x.op), .one (.slice none 0 0)], rw_ 45 RSt z.s z.o.length z.o, lot (z.o.map stRow)])
    (fun z => z.at_ ≤ b.length ∧ z.o.length ≤ 200 ∧ readAll (b.drop z.at_) (z.o.map stK) = readAll b []) (fun z => z.at_ ≤ b.length ∧ z.o.length < 200 ∧ readAll (b.drop z.at_) (z.o.map stK ++ [(z.x.op, [])]) = readAll b [])
    (fun z => 2 * (b.length - z.at_)) (fun z => 2 * (b.length - z.at_) + 1) (2 * b.length + 1) rfl rfl rfl (fun flow => ?_) (fun z hz => ?_) (fun z hz => ?_)
  · skip
    repeat' (first
     | (refine kO ?_; first | refine gv rfl rfl ?_ | refine gnil ?_ | refine gl rfl (lvb rfl rfl) rfl (fun _ => ?_) | refine gl rfl (lvB rfl rfl rfl) rfl (fun _ => ?_) | refine gl rfl (lve rfl rfl) rfl (fun _ => ?_) | refine gl rfl (lvE rfl rfl rfl) rfl (fun _ => ?_) | refine gl rfl (lva rfl rfl rfl rfl rfl) rfl (fun _ => ?_) | refine gp rfl (by (try simp only [InR]); omega) rfl ?_ | refine gf rfl rfl rfl ?_ | refine gix rfl rfl rfl rfl (by omega) rfl (fun _ => ?_) | refine gixa rfl rfl rfl rfl (by omega) rfl (fun _ => ?_) | (refine kK ?_; first | refine gcall rfl ?_ rfl (fun _ _ => ?_) (fun _ _ => ?_) | refine gcv rfl rfl ?_ rfl (fun _ _ => ?_) (fun _ _ => ?_) | refine gcc1 rfl rfl ?_ rfl (fun _ _ => ?_) (fun _ _ => ?_)) | refine geql rfl rfl (by kernel_rfl) ?_ rfl ?_ | refine gneq rfl rfl (by kernel_rfl) ?_ rfl ?_ | refine gbu rfl rfl rfl rfl rfl ?_ | refine ga rfl (fun _ => ?_) (fun _ => ?_) | refine gst rfl rfl rfl rfl ?_ ?_ | refine ge rfl rfl rfl rfl ?_ ?_ | refine gea rfl rfl rfl rfl rfl rfl rfl ?_ ?_ | refine gap rfl rfl rfl (by omega) rfl (fun _ => ?_) (fun _ => ?_) | refine gan rfl rfl rfl (by omega) rfl (fun _ => ?_) (fun _ => ?_) | refine gapz rfl rfl rfl rfl (by omega) rfl (fun _ => ?_) (fun _ => ?_) | refine ganz rfl rfl rfl rfl (by omega) rfl (fun _ => ?_) (fun _ => ?_) | refine gbs RB rfl rfl rfl rfl rfl rfl (fun _ => ?_) (fun _ => ?_) | refine gbb rfl rfl rfl (by first | (simp; done) | (simp only [and_true]; omega)) rfl rfl rfl rfl (fun _ => ?_) (fun _ => ?_) | refine gb rfl rfl rfl rfl ?_ | refine gw rfl rfl ?_ | (refine kg ?_; (first | refine guardT rfl rfl rfl rfl (fun h => ?_) (fun h => ?_) | refine guardF rfl rfl rfl rfl (fun h => ?_) (fun h => ?_) | refine guardU rfl rfl rfl rfl ?_ | refine guardTH rfl rfl rfl rfl ?_ (fun h => ?_) (fun h => ?_) | refine guardFH rfl rfl rfl rfl ?_ (fun h => ?_) (fun h => ?_) | refine guardUH rfl rfl rfl rfl ?_ ?_) <;> (first | exact h.elim | (exfalso; omega) | exact absurd h (by assumption) | exact absurd (by assumption) h | skip)))
     | (refine kC ?_; first | refine gseq ?_ | refine greg ?_ | refine gret ?_ | refine gskip ?_ | (refine gcond rfl (fun h => ?_) (fun h => ?_) <;> (first | exact h.elim | (exfalso; omega) | exact absurd h (by assumption) | exact absurd (by assumption) h | skip)) | refine gblk ?_ | refine ggoto ?_)
     | (refine kN ?_; first | refine gthen ?_ | refine gnblk ?_ | refine gns1 ?_ | refine gns2 ?_)
     | (refine kJ ?_; first | refine gjs ?_ | refine gjb ?_ | refine gjl ?_ | refine gjl2 ?_ | refine gjl3 ?_ | refine gjc ?_)
     | (refine kR ?_; first | refine grs1 ?_ | refine grs2 ?_ | refine grs ?_ | refine grb ?_ | refine grc ?_)
     | (refine kR ?_; refine gr rfl (rvT rfl (rvT rfl rv0)) (⟨⟨_, _⟩, _⟩, _) rfl (er (elot Ent.nil)) ?_)
     | (refine kR ?_; refine gr rfl (rvT rfl (rvT rfl rv0)) (⟨⟨none, 0⟩, []⟩, _) rfl (er0 (elot0 Ent.nil)) ?_)
     | (refine Pre.mk ?_; first | exact True.intro | omega | ((repeat' (first | refine And.intro ?_ ?_ | exact True.intro | assumption | omega)); done) | (simp only [and_true, true_and, or_true, true_or]; first | done | omega))
     | (refine kD ?_; first | exact dm_none))
    rename_i g
    exact flow ⟨[], ⟨none, 0⟩, 0, g, ⟨0, [], ⟨none, 0⟩⟩⟩ (by repeat (first | exact trivial | refine ⟨rfl, ?_⟩)) (eb (er0 (elot0 Ent.nil))) ⟨Nat.zero_le _, Nat.zero_le _, rfl⟩ (by simp only; omega)
  · obtain ⟨o, s, at_, g, x⟩ := z
    obtain ⟨z1, z2, z3⟩ := hz
    dsimp only at z1 z2 z3 ⊢
    have hdl : (b.drop at_).length = b.length - at_ := List.length_drop
    have hd0 : at_ < b.length → ixd (b.drop at_) 0 = ixd b (at_ : Int) := fun h => ixd_drop (b := b) (a := at_) (i := 0) (by omega)
    have hb0 := (ixd b (at_ : Int)).toNat_lt
    have hg2 : at_ + 2 < b.length → getN b ((at_ : Int) + 1) 2 = lenH (b.drop at_) := fun h => (getN2 h).1
    have hgE : at_ < b.length → (getE b ((at_ : Int) + 1) 2 = 0 ↔ at_ + 2 < b.length) := fun h => by
      unfold getE partE
      rw [if_pos (by decide), if_neg (by omega)]
      split <;> omega
    have hbad : at_ < b.length → o.length ≠ 200 → ∀ e, (oneS (b.drop at_)).e = e → e ≠ 0 → ([] : List Stp) = readL b ∧ e = readE b := fun h1 h2 e he h0 => by
      have hr := readAll_bad (d := b.drop at_) (acc := o.map stK) (fun e => by rw [e] at hdl; simp at hdl; omega) (by simpa using h2) (by rw [he]; exact h0)
      unfold readL readE; rw [← z3, hr]; exact ⟨rfl, he.symm⟩
    have hgo : ∀ (n : Nat) (u : List UInt8), at_ < b.length → o.length < 200 → oneS (b.drop at_) = ⟨1, u, n, 0⟩ → ∀ sp : Sv, readAll (b.drop (at_ + n)) ((o ++ [(⟨1, u, sp⟩ : StG)]).map stK) = readAll b [] := fun n u h1 h2 he sp => by
      have hr := readAll_step (d := b.drop at_) (acc := o.map stK) (fun e => by rw [e] at hdl; simp at hdl; omega) (by simp; omega) (by rw [he])
      rw [← z3, hr, he, List.drop_drop, List.map_append]; rfl
    repeat' (first
     | (refine kO ?_; first | refine gbs RSt rfl rfl rfl rfl rfl rfl (fun _ => ?_) (fun _ => ?_) | refine gv rfl rfl ?_ | refine gnil ?_ | refine gl rfl (lvb rfl rfl) rfl (fun _ => ?_) | refine gl rfl (lvB rfl rfl rfl) rfl (fun _ => ?_) | refine gl rfl (lve rfl rfl) rfl (fun _ => ?_) | refine gl rfl (lvE rfl rfl rfl) rfl (fun _ => ?_) | refine gl rfl (lva rfl rfl rfl rfl rfl) rfl (fun _ => ?_) | refine gp rfl (by (try simp only [InR]); omega) rfl ?_ | refine gf rfl rfl rfl ?_ | refine gix rfl rfl rfl rfl (by omega) rfl (fun _ => ?_) | refine gixa rfl rfl rfl rfl (by omega) rfl (fun _ => ?_) | (refine kK ?_; first | refine gcall rfl ?_ rfl (fun _ _ => ?_) (fun _ _ => ?_) | refine gcv rfl rfl ?_ rfl (fun _ _ => ?_) (fun _ _ => ?_) | refine gcc1 rfl rfl ?_ rfl (fun _ _ => ?_) (fun _ _ => ?_)) | refine geql rfl rfl (by kernel_rfl) ?_ rfl ?_ | refine gneq rfl rfl (by kernel_rfl) ?_ rfl ?_ | refine gbu rfl rfl rfl rfl rfl ?_ | refine ga rfl (fun _ => ?_) (fun _ => ?_) | refine gst rfl rfl rfl rfl ?_ ?_ | refine ge rfl rfl rfl rfl ?_ ?_ | refine gea rfl rfl rfl rfl rfl rfl rfl ?_ ?_ | refine gap rfl rfl rfl (by omega) rfl (fun _ => ?_) (fun _ => ?_) | refine gan rfl rfl rfl (by omega) rfl (fun _ => ?_) (fun _ => ?_) | refine gapz rfl rfl rfl rfl (by omega) rfl (fun _ => ?_) (fun _ => ?_) | refine ganz rfl rfl rfl rfl (by omega) rfl (fun _ => ?_) (fun _ => ?_) | refine gbs RB rfl rfl rfl rfl rfl rfl (fun _ => ?_) (fun _ => ?_) | refine gbb rfl rfl rfl (by first | (simp; done) | (simp only [and_true]; omega)) rfl rfl rfl rfl (fun _ => ?_) (fun _ => ?_) | refine gb rfl rfl rfl rfl ?_ | refine gw rfl rfl ?_ | (refine kg ?_; (first | refine guardT rfl rfl rfl rfl (fun h => ?_) (fun h => ?_) | refine guardF rfl rfl rfl rfl (fun h => ?_) (fun h => ?_) | refine guardU rfl rfl rfl rfl ?_ | refine guardTH rfl rfl rfl rfl ?_ (fun h => ?_) (fun h => ?_) | refine guardFH rfl rfl rfl rfl ?_ (fun h => ?_) (fun h => ?_) | refine guardUH rfl rfl rfl rfl ?_ ?_) <;> (first | exact h.elim | (exfalso; omega) | exact absurd h (by assumption) | exact absurd (by assumption) h | skip)))
     | (refine kC ?_; first | refine gseq ?_ | refine greg ?_ | refine gret ?_ | refine gskip ?_ | (refine gcond rfl (fun h => ?_) (fun h => ?_) <;> (first | exact h.elim | (exfalso; omega) | exact absurd h (by assumption) | exact absurd (by assumption) h | skip)) | refine gblk ?_ | refine glab ?_ | refine ggoto ?_)
     | (refine kN ?_; first | refine gthen ?_ | refine gnblk ?_ | refine gns1 ?_ | refine gns2 ?_)
     | (refine kJ ?_; first | refine gjs ?_ | refine gjb ?_ | refine gjl ?_ | refine gjl2 ?_ | refine gjl3 ?_ | refine gjc ?_)
     | (refine kR ?_; first | refine grs1 ?_ | refine grs2 ?_ | refine grs ?_ | refine grb ?_ | refine grc ?_)
     | (refine kR ?_; refine gr rfl (rvT rfl (rvT rfl rv0)) (⟨⟨_, _⟩, _⟩, _) rfl (er (elot Ent.nil)) ?_)
     | (refine kR ?_; refine gr rfl (rvT rfl (rvT rfl rv0)) (⟨⟨none, 0⟩, []⟩, _) rfl (er0 (elot0 Ent.nil)) ?_)
     | (refine Pre.mk ?_; first | exact True.intro | omega | ((repeat' (first | refine And.intro ?_ ?_ | exact True.intro | assumption | omega)); done) | (simp only [and_true, true_and, or_true, true_or]; first | done | omega))
     | (refine kD ?_; first | exact dm_none))
    · show o.map stK = readL b ∧ 0 = readE b
      have e0 : b.drop at_ = [] := List.drop_eq_nil_of_le (by omega)
      rw [e0, readAll_nil] at z3
      unfold readL readE; rw [← z3]; exact ⟨rfl, rfl⟩
    · show [] = readL b ∧ 3 = readE b
      have hr := readAll_long (d := b.drop at_) (acc := o.map stK) (fun e => by rw [e] at hdl; simp at hdl; omega) (by simp; omega)
      rw [hr] at z3
      unfold readL readE; rw [← z3]; exact ⟨rfl, rfl⟩
    · have h1 : (ixd b (at_ : Int)).toNat ≤ 127 := by omega
      have e1 := on_1 (d := b.drop at_) (by rw [hd0 (by omega)]; omega)
      rw [hd0 (by omega)] at e1
      have hl : (b.drop at_).length < 1 + (ixd b (at_ : Int)).toNat := by
        unfold partE at h; rw [if_neg (by omega)] at h; split at h <;> omega
      rw [op_s hl] at e1
      exact hbad (by omega) (by omega) 4 (by rw [e1]) (by decide)
    · rename_i sp _ _ s1 s'
      have e1 := on_1 (d := b.drop at_) (by rw [hd0 (by omega)]; omega)
      rw [hd0 (by omega)] at e1
      have hl : ¬ (b.drop at_).length < 1 + (ixd b (at_ : Int)).toNat := by
        unfold partE at h; rw [if_neg (by omega)] at h; split at h <;> omega
      rw [op_ok hl] at e1
      have hpl : partL b ((at_ : Int) + 1) ((ixd b (at_ : Int)).toNat : Int) = ((b.drop at_).drop 1).take (ixd b (at_ : Int)).toNat := by
        unfold partL; rw [if_pos h, List.drop_drop]; congr 2
      have e8 : (at_ : Int) + 1 + ((ixd b (at_ : Int)).toNat : Int) = ((at_ + (1 + (ixd b (at_ : Int)).toNat) : Nat) : Int) := by omega
      have hgo2 := hgo _ _ (by omega) (by omega) e1 sp
      rw [hpl, e8]
      refine gj20 ⟨o ++ [⟨1, ((b.drop at_).drop 1).take (ixd b (at_ : Int)).toNat, sp⟩], s', at_ + (1 + (ixd b (at_ : Int)).toNat), g, ⟨1, ((b.drop at_).drop 1).take (ixd b (at_ : Int)).toNat, sp⟩⟩ (by dsimp only; rw [List.length_append]; exact (by repeat (first | exact trivial | refine ⟨rfl, ?_⟩))) ?_ ⟨by dsimp only; omega, by dsimp only; rw [List.length_append, List.length_singleton]; omega, hgo2⟩ (by dsimp only; omega)
      dsimp only
      simp only [List.length_append, List.length_singleton, List.map_append, List.map_cons, List.map_nil]
      exact eb (er (elot1 Ent.nil))
    · have e1 := on_s3 (d := b.drop at_) (by rw [hd0 (by omega)]; omega) (by have := hgE (by omega); omega)
      exact hbad (by omega) (by omega) 4 (by rw [e1]) (by decide)
    · have hg0 : getE b ((at_ : Int) + 1) 2 = 0 := by assumption
      have hlt := (hgE (by omega)).1 hg0
      have hN := hg2 hlt
      have e1 := on_f (d := b.drop at_) (by rw [hd0 (by omega)]; omega) (by omega) (by omega)
      exact hbad (by omega) (by omega) 5 (by rw [e1]) (by decide)
    · have hg0 : getE b ((at_ : Int) + 1) 2 = 0 := by assumption
      have hlt := (hgE (by omega)).1 hg0
      have hN := hg2 hlt
      have e1 := on_p (d := b.drop at_) (by rw [hd0 (by omega)]; omega) (by omega) (by omega)
      rw [hN] at h
      have hl : (b.drop at_).length < 3 + lenH (b.drop at_) := by
        unfold partE at h; rw [if_neg (by omega)] at h; split at h <;> omega
      rw [op_s hl] at e1
      exact hbad (by omega) (by omega) 4 (by rw [e1]) (by decide)
    · rename_i sp _ _ s1 s'
      have hg0 : getE b ((at_ : Int) + 1) 2 = 0 := by assumption
      have hlt := (hgE (by omega)).1 hg0
      have hN := hg2 hlt
      have e1 := on_p (d := b.drop at_) (by rw [hd0 (by omega)]; omega) (by omega) (by omega)
      rw [hN] at h
      have hl : ¬ (b.drop at_).length < 3 + lenH (b.drop at_) := by
        unfold partE at h; rw [if_neg (by omega)] at h; split at h <;> omega
      rw [op_ok hl] at e1
      have hpl : partL b ((at_ : Int) + 3) (getN b ((at_ : Int) + 1) 2) = ((b.drop at_).drop 3).take (lenH (b.drop at_)) := by
        rw [hN]; unfold partL; rw [if_pos h, List.drop_drop]; congr 2
      have e8 : (at_ : Int) + 3 + getN b ((at_ : Int) + 1) 2 = ((at_ + (3 + lenH (b.drop at_)) : Nat) : Int) := by omega
      have hgo2 := hgo _ _ (by omega) (by omega) e1 sp
      rw [hpl, e8]
      refine gj20 ⟨o ++ [⟨1, ((b.drop at_).drop 3).take (lenH (b.drop at_)), sp⟩], s', at_ + (3 + lenH (b.drop at_)), g, ⟨1, ((b.drop at_).drop 3).take (lenH (b.drop at_)), sp⟩⟩ (by dsimp only; rw [List.length_append]; exact (by repeat (first | exact trivial | refine ⟨rfl, ?_⟩))) ?_ ⟨by dsimp only; omega, by dsimp only; rw [List.length_append, List.length_singleton]; omega, hgo2⟩ (by dsimp only; omega)
      dsimp only
      simp only [List.length_append, List.length_singleton, List.map_append, List.map_cons, List.map_nil]
      exact eb (er (elot1 Ent.nil))
    · have hg0 : getE b ((at_ : Int) + 1) 2 = 0 := by assumption
      have hlt := (hgE (by omega)).1 hg0
      have hN := hg2 hlt
      have e1 := on_f (d := b.drop at_) (by rw [hd0 (by omega)]; omega) (by omega) (by omega)
      exact hbad (by omega) (by omega) 5 (by rw [e1]) (by decide)
    · have e1 := on_op (d := b.drop at_) (by rw [hd0 (by omega)]; omega) (by rw [hd0 (by omega)]; omega)
      rw [hd0 (by omega)] at e1
      have hr := readAll_step (d := b.drop at_) (acc := o.map stK) (fun e => by rw [e] at hdl; simp at hdl; omega) (by simp; omega) (by rw [e1])
      rw [show ((ixd b (at_ : Int)).toNat : Int) - 128 + 1 = ((ixd b (at_ : Int)).toNat : Int) - 127 by omega]
      exact gj21 ⟨o, s, at_ + 1, g, ⟨((ixd b (at_ : Int)).toNat : Int) - 127, [], ⟨none, 0⟩⟩⟩ (by repeat (first | exact trivial | refine ⟨rfl, ?_⟩)) (eb (er (elot Ent.nil))) ⟨by dsimp only; omega, by dsimp only; omega, by dsimp only; rw [← z3, hr, e1, List.drop_drop]⟩ (by dsimp only; omega)
    · have e1 := on_bad (d := b.drop at_) (by rw [hd0 (by omega)]; omega) (by rw [hd0 (by omega)]; omega)
      exact hbad (by omega) (by omega) 5 (by rw [e1]) (by decide)
    all_goals skip
  · obtain ⟨o, s, at_, g, x⟩ := z
    obtain ⟨z1, z2, z3⟩ := hz
    dsimp only at z1 z2 z3 ⊢
    repeat' (first
     | (refine kO ?_; first | refine gbs RSt rfl rfl rfl rfl rfl rfl (fun _ => ?_) (fun _ => ?_) | refine gv rfl rfl ?_ | refine gnil ?_ | refine gl rfl (lvb rfl rfl) rfl (fun _ => ?_) | refine gl rfl (lvB rfl rfl rfl) rfl (fun _ => ?_) | refine gl rfl (lve rfl rfl) rfl (fun _ => ?_) | refine gl rfl (lvE rfl rfl rfl) rfl (fun _ => ?_) | refine gl rfl (lva rfl rfl rfl rfl rfl) rfl (fun _ => ?_) | refine gp rfl (by (try simp only [InR]); omega) rfl ?_ | refine gf rfl rfl rfl ?_ | refine gix rfl rfl rfl rfl (by omega) rfl (fun _ => ?_) | refine gixa rfl rfl rfl rfl (by omega) rfl (fun _ => ?_) | (refine kK ?_; first | refine gcall rfl ?_ rfl (fun _ _ => ?_) (fun _ _ => ?_) | refine gcv rfl rfl ?_ rfl (fun _ _ => ?_) (fun _ _ => ?_) | refine gcc1 rfl rfl ?_ rfl (fun _ _ => ?_) (fun _ _ => ?_)) | refine geql rfl rfl (by kernel_rfl) ?_ rfl ?_ | refine gneq rfl rfl (by kernel_rfl) ?_ rfl ?_ | refine gbu rfl rfl rfl rfl rfl ?_ | refine ga rfl (fun _ => ?_) (fun _ => ?_) | refine gst rfl rfl rfl rfl ?_ ?_ | refine ge rfl rfl rfl rfl ?_ ?_ | refine gea rfl rfl rfl rfl rfl rfl rfl ?_ ?_ | refine gap rfl rfl rfl (by omega) rfl (fun _ => ?_) (fun _ => ?_) | refine gan rfl rfl rfl (by omega) rfl (fun _ => ?_) (fun _ => ?_) | refine gapz rfl rfl rfl rfl (by omega) rfl (fun _ => ?_) (fun _ => ?_) | refine ganz rfl rfl rfl rfl (by omega) rfl (fun _ => ?_) (fun _ => ?_) | refine gbs RB rfl rfl rfl rfl rfl rfl (fun _ => ?_) (fun _ => ?_) | refine gbb rfl rfl rfl (by first | (simp; done) | (simp only [and_true]; omega)) rfl rfl rfl rfl (fun _ => ?_) (fun _ => ?_) | refine gb rfl rfl rfl rfl ?_ | refine gw rfl rfl ?_ | (refine kg ?_; (first | refine guardT rfl rfl rfl rfl (fun h => ?_) (fun h => ?_) | refine guardF rfl rfl rfl rfl (fun h => ?_) (fun h => ?_) | refine guardU rfl rfl rfl rfl ?_ | refine guardTH rfl rfl rfl rfl ?_ (fun h => ?_) (fun h => ?_) | refine guardFH rfl rfl rfl rfl ?_ (fun h => ?_) (fun h => ?_) | refine guardUH rfl rfl rfl rfl ?_ ?_) <;> (first | exact h.elim | (exfalso; omega) | exact absurd h (by assumption) | exact absurd (by assumption) h | skip)))
     | (refine kC ?_; first | refine gseq ?_ | refine greg ?_ | refine gret ?_ | refine gskip ?_ | (refine gcond rfl (fun h => ?_) (fun h => ?_) <;> (first | exact h.elim | (exfalso; omega) | exact absurd h (by assumption) | exact absurd (by assumption) h | skip)) | refine gblk ?_ | refine glab ?_ | refine ggoto ?_)
     | (refine kN ?_; first | refine gthen ?_ | refine gnblk ?_ | refine gns1 ?_ | refine gns2 ?_)
     | (refine kJ ?_; first | refine gjs ?_ | refine gjb ?_ | refine gjl ?_ | refine gjl2 ?_ | refine gjl3 ?_ | refine gjc ?_)
     | (refine kR ?_; first | refine grs1 ?_ | refine grs2 ?_ | refine grs ?_ | refine grb ?_ | refine grc ?_)
     | (refine kR ?_; refine gr rfl (rvT rfl (rvT rfl rv0)) (⟨⟨_, _⟩, _⟩, _) rfl (er (elot Ent.nil)) ?_)
     | (refine kR ?_; refine gr rfl (rvT rfl (rvT rfl rv0)) (⟨⟨none, 0⟩, []⟩, _) rfl (er0 (elot0 Ent.nil)) ?_)
     | (refine Pre.mk ?_; first | exact True.intro | omega | ((repeat' (first | refine And.intro ?_ ?_ | exact True.intro | assumption | omega)); done) | (simp only [and_true, true_and, or_true, true_or]; first | done | omega))
     | (refine kD ?_; first | exact dm_none))
    rename_i s1 s'
    refine gj20 ⟨o ++ [⟨x.op, [], ⟨none, 0⟩⟩], s', at_, g, ⟨x.op, [], ⟨none, 0⟩⟩⟩ (by dsimp only; rw [List.length_append]; exact (by repeat (first | exact trivial | refine ⟨rfl, ?_⟩))) ?_ ⟨by dsimp only; omega, by dsimp only; rw [List.length_append, List.length_singleton]; omega, by dsimp only; rw [List.map_append]; exact z3⟩ (by dsimp only; omega)
    dsimp only
    simp only [List.length_append, List.length_singleton, List.map_append, List.map_cons, List.map_nil]
    exact eb (er (elotN Ent.nil))
instance c_code_Read {bA : Option Addr} {bc bn : Nat} {b : List UInt8} {w0 : World} {X : Nat → Prop} {L : List Assn} [hb : Rw w0 X L (.slice bA bn bc) RB b] : Ctr Tryd.prog 22 [.slice bA bn bc] w0 X L (b.length ≤ 140737488351232) (fun o0 : Ow StG => .tuple #[.slice o0.s.A o0.gs.length o0.s.c, .int .i64 (readE b)]) (fun o0 : Ow StG => rw_ 45 RSt o0.s o0.gs.length o0.gs :: lot (o0.gs.map stRow) :: L) (fun o0 : Ow StG => (True) ∧ (o0.gs.map stK = readL b ∧ o0.gs.length = (readL b).length)) :=
  ctr' (M' := (fun o0 : Ow StG => [rw_ 45 RSt o0.s o0.gs.length o0.gs, lot (o0.gs.map stRow)])) (by kernel_rfl) (fun hp w hw => by have eb := hb.len hw; subst eb; exact code_Read _ _ _ w (hb.get w hw) hp) (by rintro hp ⟨o0, e1⟩ ⟨q0, rfl⟩ ok; exact ⟨o0, rfl, rfl, ⟨trivial, ⟨q0, by simpa using congrArg List.length q0⟩⟩⟩)
end Go.Proofs.YtkjpemkankefnaaDoor
