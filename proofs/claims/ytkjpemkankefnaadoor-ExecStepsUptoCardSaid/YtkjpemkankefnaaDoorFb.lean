/-
  Et + Eu + Ev
-/
import Derived.Test.YtkjpemkankefnaaDoorFa
set_option linter.all false
set_option maxRecDepth 100000
set_option maxHeartbeats 4000000
/-!
  Run of both.
-/
namespace Go.Proofs.YtkjpemkankefnaaDoor
open Go.RowKit

theorem resM_stk {m : MM} (h : StkN m.st) : StkN (resM m).1 := by
  unfold resM; split
  · exact h
  · exact stk_nil
theorem stepsX_stk {l : List Stp} {st : List (List UInt8)} {ht : Int} {dg : List UInt8} : StkN (stepsX l st ht dg).1 := by
  unfold stepsX; split
  · exact resM_stk (stepsG_stk (pushM_stk2 stk_nil))
  · exact stk_nil
def goE (t : List (List UInt8) × Int) : Int := if t.2 = 0 ∧ t.1.length = 1 ∧ trueB (t.1.getD 0 []) = true then 0 else 8
def runE (u k : List UInt8) (ht : Int) (dg : List UInt8) : Int :=
  if readE u = 0 ∧ readE k = 0 ∧ pushesB (readL u) = true then goE (if (stepsX (readL u) [] ht dg).2 = 0 then stepsX (readL k) (stepsX (readL u) [] ht dg).1 ht dg else stepsX (readL u) [] ht dg) else 5
theorem bnd_of {gs : List BsG} (h : StkN (gs.map bsK)) : gs.length ≤ 1000000 ∧ ∀ b ∈ gs, b.2.length ≤ 140737488351232 :=
  ⟨by have := h.len; omega, fun b hb => by have := h.2 b.2 (List.mem_map.2 ⟨b, hb, rfl⟩); omega⟩
theorem stn_of {b : List UInt8} {gs : List StG} {n : Nat} (h : True ∧ gs.map stK = readL b ∧ gs.length = n) : StN gs := readL_stn h.2.1
theorem runE_5 {u k : List UInt8} {ht : Int} {dg : List UInt8} (h : ¬ (readE u = 0 ∧ readE k = 0 ∧ pushesB (readL u) = true)) : (5 : Int) = runE u k ht dg := by unfold runE; rw [if_neg h]
theorem runE_y {u k : List UInt8} {ht : Int} {dg : List UInt8} (h1 : readE u = 0) (h2 : readE k = 0) (h3 : pushesB (readL u) = true) : runE u k ht dg = goE (if (stepsX (readL u) [] ht dg).2 = 0 then stepsX (readL k) (stepsX (readL u) [] ht dg).1 ht dg else stepsX (readL u) [] ht dg) := by unfold runE; rw [if_pos ⟨h1, h2, h3⟩]
theorem goE_8 {t : List (List UInt8) × Int} (h : ¬ (t.2 = 0 ∧ t.1.length = 1 ∧ trueB (t.1.getD 0 []) = true)) : (8 : Int) = goE t := by unfold goE; rw [if_neg h]
theorem goE_0 {t : List (List UInt8) × Int} (h : t.2 = 0 ∧ t.1.length = 1 ∧ trueB (t.1.getD 0 []) = true) : (0 : Int) = goE t := by unfold goE; rw [if_pos h]
theorem stk_of {l : List Stp} {st : List (List UInt8)} {gs : List BsG} {n : Nat} {ht : Int} {dg : List UInt8} (h : True ∧ gs.map bsK = (stepsX l st ht dg).1 ∧ gs.length = n) : StkN (gs.map bsK) := by rw [h.2.1]; exact stepsX_stk
theorem go_iff {T : List (List UInt8) × Int} {gs : List BsG} (h : gs.map bsK = T.1) : (T.2 = 0 ∧ T.1.length = 1 ∧ trueB (T.1.getD 0 []) = true) ↔ (T.2 = 0 ∧ gs.length = 1 ∧ trueB (ixd gs (0 : Int)).2 = true) := by
  have e := ixd_getD (gs := gs) (i := 0)
  rw [← h, List.length_map, show (ixd gs (0 : Int)).2 = _ from e]
theorem exec_Run (uA : Option Addr) (uc : Nat) (u : List UInt8) (kA : Option Addr) (kc : Nat) (k : List UInt8) (ht : Int) (dg : List UInt8) [hdg : LenIs dg 32] (w0 : World) (hK : KOk w0) (hu : Slr w0 RB (.slice uA u.length uc) u) (hk : Slr w0 RB (.slice kA k.length kc) k) (hp : (0 ≤ ht ∧ ht ≤ 4294967295) ∧ u.length ≤ 100000000 ∧ k.length ≤ 100000000) :
    Ct Tryd.prog 10 [.slice uA u.length uc, .slice kA k.length kc, Ag [.one (.int .u32 ht), .blk 32 (RB.all dg)]] w0 no (fun ((e0) : Int) => .int .i64 e0) (fun (e0) => []) (fun (e0) => e0 = runE u k ht dg) := by
  have hst := St.start w0
  have j_hK := KR.old hK
  have i_u := Rw.old hu
  have i_k := Rw.old hk
  refine genter _ hst Tryd.func10 rfl rfl rfl rfl ?_
  have i_nil : ∀ {X : Nat → Prop} {L : List Assn}, Rw w0 X L (.slice none 0 0) RBs ([] : List BsG) := fun {X L} => ⟨fun _ _ => ⟨none, 0, rfl, by simp [Rep.all], Nat.le_refl _, by decide, fun h => absurd h (by simp [Rep.all])⟩⟩
  repeat' (first
   | (refine kO ?_; first | refine gv rfl rfl ?_ | refine gnil ?_ | refine gl rfl (lvb rfl rfl) rfl (fun _ => ?_) | refine gl rfl (lvB rfl rfl rfl) rfl (fun _ => ?_) | refine gl rfl (lve rfl rfl) rfl (fun _ => ?_) | refine gl rfl (lvE rfl rfl rfl) rfl (fun _ => ?_) | refine gl rfl (lva rfl rfl rfl rfl rfl) rfl (fun _ => ?_) | refine gp rfl (by (try simp only [InR]); omega) rfl ?_ | refine gix rfl rfl rfl rfl (by omega) rfl (fun _ => ?_) | refine gixa rfl rfl rfl rfl (by omega) rfl (fun _ => ?_) | (refine kK ?_; first | refine gcall rfl ?_ rfl (fun _ _ => ?_) (fun _ _ => ?_) | refine gcv rfl rfl ?_ rfl (fun _ _ => ?_) (fun _ _ => ?_) | refine gcc1 rfl rfl ?_ rfl (fun _ _ => ?_) (fun _ _ => ?_)) | refine geql rfl rfl (by kernel_rfl) ?_ rfl ?_ | refine gneq rfl rfl (by kernel_rfl) ?_ rfl ?_ | refine gx rfl rfl (fun _ => ?_) (fun _ => ?_) | (refine kg ?_; (first | refine guardT rfl rfl rfl rfl (fun h => ?_) (fun h => ?_) | refine guardF rfl rfl rfl rfl (fun h => ?_) (fun h => ?_) | refine guardU rfl rfl rfl rfl ?_ | refine guardTH rfl rfl rfl rfl ?_ (fun h => ?_) (fun h => ?_) | refine guardFH rfl rfl rfl rfl ?_ (fun h => ?_) (fun h => ?_) | refine guardUH rfl rfl rfl rfl ?_ ?_) <;> (first | exact h.elim | (exfalso; omega) | exact absurd h (by assumption) | exact absurd (by assumption) h | skip)))
   | (refine kC ?_; first | refine gseq ?_ | refine greg ?_ | refine gret ?_ | refine gskip ?_ | (refine gcond rfl (fun h => ?_) (fun h => ?_) <;> (first | exact h.elim | (exfalso; omega) | exact absurd h (by assumption) | exact absurd (by assumption) h | skip)))
   | (refine kN ?_; first | refine gthen ?_)
   | (refine kR ?_; first | refine grs ?_ | refine grc ?_)
   | (refine kR ?_; refine gr rfl (rvT rfl rv0) (_) rfl Ent.nil ?_)
   | exact Pre.mk (stn_of (by assumption))
   | exact Pre.mk ⟨stn_of (by assumption), hp.1, by simp, by simp⟩
   | exact Pre.mk ⟨stn_of (by assumption), hp.1, (bnd_of (stk_of (by assumption))).1, (bnd_of (stk_of (by assumption))).2⟩
   | (refine Pre.mk ?_; first | exact True.intro | omega | ((repeat' (first | refine And.intro ?_ ?_ | exact True.intro | assumption | omega)); done) | (simp only [and_true, true_and, or_true, true_or]; first | done | omega))
   | (refine kD ?_; first | exact dm_none))
  all_goals
    rename (True ∧ List.map stK _ = readL u ∧ _) => ha
    rename (True ∧ List.map stK _ = readL k ∧ _) => hb
    simp only [ha.2.1, hb.2.1, List.map_nil] at *
  · exact runE_5 (fun hc => by rw [h] at hc; cases hc.2.2)
  · rename (True ∧ List.map bsK _ = (stepsX (readL k) _ ht dg).1 ∧ _) => ht2
    rename (True ∧ List.map bsK _ = (stepsX (readL u) _ ht dg).1 ∧ _) => hs
    rw [runE_y (by assumption) (by assumption) (by assumption), if_pos (by assumption), ← hs.2.1]
    exact goE_8 (fun hc => by have h9 := ((go_iff ht2.2.1).1 hc).2.2; have h8 := h9.symm.trans (by assumption : _ = false); cases h8)
  · rename (True ∧ List.map bsK _ = (stepsX (readL k) _ ht dg).1 ∧ _) => ht2
    rename (True ∧ List.map bsK _ = (stepsX (readL u) _ ht dg).1 ∧ _) => hs
    rw [runE_y (by assumption) (by assumption) (by assumption), if_pos (by assumption), ← hs.2.1]
    exact goE_0 ((go_iff ht2.2.1).2 ⟨by assumption, by omega, by assumption⟩)
  · rename (True ∧ List.map bsK _ = (stepsX (readL k) _ ht dg).1 ∧ _) => ht2
    rename (True ∧ List.map bsK _ = (stepsX (readL u) _ ht dg).1 ∧ _) => hs
    rw [runE_y (by assumption) (by assumption) (by assumption), if_pos (by assumption), ← hs.2.1]
    exact goE_8 (fun hc => by have := ((go_iff ht2.2.1).1 hc).2.1; omega)
  · rename (True ∧ List.map bsK _ = (stepsX (readL k) _ ht dg).1 ∧ _) => ht2
    rename (True ∧ List.map bsK _ = (stepsX (readL u) _ ht dg).1 ∧ _) => hs
    rw [runE_y (by assumption) (by assumption) (by assumption), if_pos (by assumption), ← hs.2.1]
    exact goE_8 (fun hc => by have := hc.1; contradiction)
  · rw [runE_y (by assumption) (by assumption) (by assumption), if_neg (by assumption)]
    exact goE_8 (fun hc => by have := hc.1; contradiction)
  · exact runE_5 (fun hc => by have := hc.2.1; contradiction)
  · exact runE_5 (fun hc => by have := hc.1; contradiction)
instance c_exec_Run {uA : Option Addr} {uc un : Nat} {u : List UInt8} {kA : Option Addr} {kc kn : Nat} {k : List UInt8} {ht : Int} {dg : List UInt8} {w0 : World} {X : Nat → Prop} {L : List Assn} [hK : KR w0 X L] [hu : Rw w0 X L (.slice uA un uc) RB u] [hk : Rw w0 X L (.slice kA kn kc) RB k] [hdg : LenIs dg 32] : Ctr Tryd.prog 10 [.slice uA un uc, .slice kA kn kc, Ag [.one (.int .u32 ht), .blk 32 (RB.all dg)]] w0 X L ((0 ≤ ht ∧ ht ≤ 4294967295) ∧ u.length ≤ 100000000 ∧ k.length ≤ 100000000) (fun _ : Unit => .int .i64 (runE u k ht dg)) (fun _ : Unit => L) (fun _ : Unit => True) :=
  ctr' (M' := (fun _ : Unit => [])) (by kernel_rfl) (fun hp w hw => by have eu := hu.len hw; subst eu; have ek := hk.len hw; subst ek; exact exec_Run _ _ _ _ _ _ _ _ w (hK.get w hw) (hu.get w hw) (hk.get w hw) hp) (by rintro hp e0 rfl ok; exact ⟨(), rfl, rfl, trivial⟩)
theorem ref14_Run (uA : Option Addr) (uc : Nat) (u : List UInt8) (kA : Option Addr) (kc : Nat) (k : List UInt8) (ht : Int) (dg : List UInt8) [hdg : LenIs dg 32] (w0 : World) (hu : Slr w0 RB (.slice uA u.length uc) u) (hk : Slr w0 RB (.slice kA k.length kc) k) (hp : (0 ≤ ht ∧ ht ≤ 4294967295) ∧ u.length ≤ 100000000 ∧ k.length ≤ 100000000) :
    Ct Tryd.prog 11 [.slice uA u.length uc, .slice kA k.length kc, Ag [.one (.int .u32 ht), .blk 32 (RB.all dg)]] w0 no (fun ((e0) : Int) => .int .i64 e0) (fun (e0) => []) (fun (e0) => e0 = runE u k ht dg) := by
  have hst := St.start w0
  have i_u := Rw.old hu
  have i_k := Rw.old hk
  refine genter _ hst Tryd.func11 rfl rfl rfl rfl ?_
  have i_nil : ∀ {X : Nat → Prop} {L : List Assn}, Rw w0 X L (.slice none 0 0) RBs ([] : List BsG) := fun {X L} => ⟨fun _ _ => ⟨none, 0, rfl, by simp [Rep.all], Nat.le_refl _, by decide, fun h => absurd h (by simp [Rep.all])⟩⟩
  repeat' (first
   | (refine kO ?_; first | refine gv rfl rfl ?_ | refine gnil ?_ | refine gl rfl (lvb rfl rfl) rfl (fun _ => ?_) | refine gl rfl (lvB rfl rfl rfl) rfl (fun _ => ?_) | refine gl rfl (lve rfl rfl) rfl (fun _ => ?_) | refine gl rfl (lvE rfl rfl rfl) rfl (fun _ => ?_) | refine gl rfl (lva rfl rfl rfl rfl rfl) rfl (fun _ => ?_) | refine gp rfl (by (try simp only [InR]); omega) rfl ?_ | refine gix rfl rfl rfl rfl (by omega) rfl (fun _ => ?_) | refine gixa rfl rfl rfl rfl (by omega) rfl (fun _ => ?_) | (refine kK ?_; first | refine gcall rfl ?_ rfl (fun _ _ => ?_) (fun _ _ => ?_) | refine gcv rfl rfl ?_ rfl (fun _ _ => ?_) (fun _ _ => ?_) | refine gcc1 rfl rfl ?_ rfl (fun _ _ => ?_) (fun _ _ => ?_)) | refine geql rfl rfl (by kernel_rfl) ?_ rfl ?_ | refine gneq rfl rfl (by kernel_rfl) ?_ rfl ?_ | refine gx rfl rfl (fun _ => ?_) (fun _ => ?_) | (refine kg ?_; (first | refine guardT rfl rfl rfl rfl (fun h => ?_) (fun h => ?_) | refine guardF rfl rfl rfl rfl (fun h => ?_) (fun h => ?_) | refine guardU rfl rfl rfl rfl ?_ | refine guardTH rfl rfl rfl rfl ?_ (fun h => ?_) (fun h => ?_) | refine guardFH rfl rfl rfl rfl ?_ (fun h => ?_) (fun h => ?_) | refine guardUH rfl rfl rfl rfl ?_ ?_) <;> (first | exact h.elim | (exfalso; omega) | exact absurd h (by assumption) | exact absurd (by assumption) h | skip)))
   | (refine kC ?_; first | refine gseq ?_ | refine greg ?_ | refine gret ?_ | refine gskip ?_ | (refine gcond rfl (fun h => ?_) (fun h => ?_) <;> (first | exact h.elim | (exfalso; omega) | exact absurd h (by assumption) | exact absurd (by assumption) h | skip)))
   | (refine kN ?_; first | refine gthen ?_)
   | (refine kR ?_; first | refine grs ?_ | refine grc ?_)
   | (refine kR ?_; refine gr rfl (rvT rfl rv0) (_) rfl Ent.nil ?_)
   | exact Pre.mk (stn_of (by assumption))
   | exact Pre.mk ⟨stn_of (by assumption), hp.1, by have := (readL_may u).2.2; have := (readL_may k).2.2; grind⟩
   | exact Pre.mk ⟨stn_of (by assumption), hp.1, by grind⟩
   | (refine Pre.mk ?_; first | exact True.intro | omega | ((repeat' (first | refine And.intro ?_ ?_ | exact True.intro | assumption | omega)); done) | (simp only [and_true, true_and, or_true, true_or]; first | done | omega))
   | (refine kD ?_; first | exact dm_none))
  all_goals
    rename (True ∧ List.map stK _ = readL u ∧ _) => ha
    rename (True ∧ List.map stK _ = readL k ∧ _) => hb
    simp only [ha.2.1, hb.2.1, List.map_nil] at *
  · exact runE_5 (fun hc => by rw [h] at hc; cases hc.2.2)
  · rename (True ∧ List.map bsK _ = (stepsX (readL k) _ ht dg).1 ∧ _) => ht2
    rename (True ∧ List.map bsK _ = (stepsX (readL u) _ ht dg).1 ∧ _) => hs
    rw [runE_y (by assumption) (by assumption) (by assumption), if_pos (by assumption), ← hs.2.1]
    exact goE_8 (fun hc => by have h9 := ((go_iff ht2.2.1).1 hc).2.2; have h8 := h9.symm.trans (by assumption : _ = false); cases h8)
  · rename (True ∧ List.map bsK _ = (stepsX (readL k) _ ht dg).1 ∧ _) => ht2
    rename (True ∧ List.map bsK _ = (stepsX (readL u) _ ht dg).1 ∧ _) => hs
    rw [runE_y (by assumption) (by assumption) (by assumption), if_pos (by assumption), ← hs.2.1]
    exact goE_0 ((go_iff ht2.2.1).2 ⟨by assumption, by omega, by assumption⟩)
  · rename (True ∧ List.map bsK _ = (stepsX (readL k) _ ht dg).1 ∧ _) => ht2
    rename (True ∧ List.map bsK _ = (stepsX (readL u) _ ht dg).1 ∧ _) => hs
    rw [runE_y (by assumption) (by assumption) (by assumption), if_pos (by assumption), ← hs.2.1]
    exact goE_8 (fun hc => by have := ((go_iff ht2.2.1).1 hc).2.1; omega)
  · rename (True ∧ List.map bsK _ = (stepsX (readL k) _ ht dg).1 ∧ _) => ht2
    rename (True ∧ List.map bsK _ = (stepsX (readL u) _ ht dg).1 ∧ _) => hs
    rw [runE_y (by assumption) (by assumption) (by assumption), if_pos (by assumption), ← hs.2.1]
    exact goE_8 (fun hc => by have := hc.1; contradiction)
  · rw [runE_y (by assumption) (by assumption) (by assumption), if_neg (by assumption)]
    exact goE_8 (fun hc => by have := hc.1; contradiction)
  · exact runE_5 (fun hc => by have := hc.2.1; contradiction)
  · exact runE_5 (fun hc => by have := hc.1; contradiction)
instance c_ref14_Run {uA : Option Addr} {uc un : Nat} {u : List UInt8} {kA : Option Addr} {kc kn : Nat} {k : List UInt8} {ht : Int} {dg : List UInt8} {w0 : World} {X : Nat → Prop} {L : List Assn} [hu : Rw w0 X L (.slice uA un uc) RB u] [hk : Rw w0 X L (.slice kA kn kc) RB k] [hdg : LenIs dg 32] : Ctr Tryd.prog 11 [.slice uA un uc, .slice kA kn kc, Ag [.one (.int .u32 ht), .blk 32 (RB.all dg)]] w0 X L ((0 ≤ ht ∧ ht ≤ 4294967295) ∧ u.length ≤ 100000000 ∧ k.length ≤ 100000000) (fun _ : Unit => .int .i64 (runE u k ht dg)) (fun _ : Unit => L) (fun _ : Unit => True) :=
  ctr' (M' := (fun _ : Unit => [])) (by kernel_rfl) (fun hp w hw => by have eu := hu.len hw; subst eu; have ek := hk.len hw; subst ek; exact ref14_Run _ _ _ _ _ _ _ _ w (hu.get w hw) (hk.get w hw) hp) (by rintro hp e0 rfl ok; exact ⟨(), rfl, rfl, trivial⟩)
end Go.Proofs.YtkjpemkankefnaaDoor

/-!
  moneyerlaw14: one, great, small, lives.
-/
namespace Go.Proofs.YtkjpemkankefnaaDoor
open Go.RowKit

theorem law14_one (b : Int) (w0 : World)  (hp : 0 ≤ b ∧ b ≤ 255) :
    Ct Tryd.prog 21 [.int .u8 b] w0 no (fun ((e0, ⟨s1, n1, x1⟩) : Int × Br UInt8) => Ag [.one (.int .u8 e0), .one (.slice s1.A n1 s1.c)]) (fun (e0, ⟨s1, n1, x1⟩) => [rw_ 5 RB s1 n1 x1]) (fun (e0, ⟨s1, n1, x1⟩) => e0 = 1 ∧ x1 = ([u8 b])) := by
  have hst := St.start w0
  refine genter _ hst Tryd.func21 rfl rfl rfl rfl ?_
  repeat' (first
   | (refine kO ?_; first | refine gv rfl rfl ?_ | refine gnil ?_ | refine gbu rfl rfl rfl rfl rfl ?_ | refine ga rfl (fun _ => ?_) (fun _ => ?_) | refine gst rfl rfl rfl rfl ?_ ?_ | refine ge rfl rfl rfl rfl ?_ ?_ | refine gea rfl rfl rfl rfl rfl rfl rfl ?_ ?_ | refine gbs RB rfl rfl rfl rfl rfl rfl (fun _ => ?_) (fun _ => ?_) | refine gbb rfl rfl rfl (by first | (simp; done) | (simp only [and_true]; omega)) rfl rfl rfl rfl (fun _ => ?_) (fun _ => ?_))
   | (refine kC ?_; first | refine gseq ?_ | refine greg ?_ | refine gret ?_ | refine gskip ?_)
   | (refine kN ?_; first | refine gthen ?_)
   | (refine kR ?_; first | refine grs ?_ | refine grc ?_)
   | (refine kR ?_; refine gr rfl (rvC rfl (lvb rfl rfl) rv0) (_, ⟨_, _, _⟩) rfl (er Ent.nil) ?_)
   | (refine kR ?_; refine gr rfl (rvC rfl (lvb rfl rfl) rv0) (_, ⟨⟨none, 0⟩, 0, []⟩) rfl (er0 Ent.nil) ?_)
   | (refine kR ?_; refine gr rfl (rvC rfl (lvB rfl rfl rfl) rv0) (_, ⟨_, _, _⟩) rfl (er Ent.nil) ?_)
   | (refine kR ?_; refine gr rfl (rvC rfl (lvB rfl rfl rfl) rv0) (_, ⟨⟨none, 0⟩, 0, []⟩) rfl (er0 Ent.nil) ?_)
   | (refine kD ?_; first | exact dm_none))
  all_goals first | rfl | exact ⟨rfl, rfl⟩
instance c_law14_one {b : Int} {w0 : World} {X : Nat → Prop} {L : List Assn}  : Ctr Tryd.prog 21 [.int .u8 b] w0 X L (0 ≤ b ∧ b ≤ 255) (fun s1 : Sv => Ag [.one (.int .u8 (1)), .one (.slice s1.A ([u8 b]).length s1.c)]) (fun s1 : Sv => rw_ 5 RB s1 ([u8 b]).length ([u8 b]) :: L) (fun s1 : Sv => True) :=
  ctr' (M' := (fun s1 : Sv => [rw_ 5 RB s1 ([u8 b]).length ([u8 b])])) (by kernel_rfl) (fun hp w hw => by exact law14_one _ w hp) (by rintro hp ⟨e0, ⟨s1, n1, x1⟩⟩ ⟨rfl, rfl⟩ ok; cases ok.row; exact ⟨s1, rfl, rfl, trivial⟩)
def sumP (l : List StG) : Nat := (l.map fun g => g.push.length).sum
def sumC (s : List BsG) : Nat := (s.map fun x => x.2.length).sum
theorem sum_take {α : Type} [Inhabited α] {f : α → Nat} {l : List α} {i : Nat} (h : i < l.length) : ((l.take (i + 1)).map f).sum = ((l.take i).map f).sum + f (ixd l i) := by
  have e : ixd l (i : Int) = l[i] := by rw [ixd_eq (by simpa using h)]; simp
  rw [List.take_succ_eq_append_getElem h, e, List.map_append, List.sum_append]; simp
theorem sum_take_le {α : Type} {f : α → Nat} (l : List α) (i : Nat) : ((l.take i).map f).sum ≤ (l.map f).sum := by
  have h := congrArg (fun l => (l.map f).sum) (List.take_append_drop i l)
  simp only [List.map_append, List.sum_append] at h; omega
theorem law14_great (lA : Option Addr) (lc : Nat) (l : List StG) (sA : Option Addr) (sc : Nat) (s : List BsG) (w0 : World) (hl : Slr w0 RSt (.slice lA l.length lc) l) (q_l : StP w0 l) (hs : Slr w0 RBs (.slice sA s.length sc) s) (q_s : BsP w0 s) (hp : (∀ g ∈ l, g.push.length ≤ 1099511627776) ∧ ∀ x ∈ s, x.2.length ≤ 1099511627776) :
    Ct Tryd.prog 12 [.slice lA l.length lc, .slice sA s.length sc] w0 no (fun ((e0) : Bool) => .bool e0) (fun (e0) => []) (fun (e0) => e0 = decide (20000 < sumP l + sumC s ∨ 221 < l.length ∨ 81 < s.length)) := by
  have hst := St.start w0
  have i_l := Rw.old hl
  have j_l := StR.old q_l
  have i_s := Rw.old hs
  have j_s := BsR.old q_s
  refine genter _ hst Tryd.func12 rfl rfl rfl rfl ?_
  have b0 : ∀ i, sumP (l.take i) ≤ sumP l := fun i => sum_take_le l i
  have b1 : ∀ i, sumC (s.take i) ≤ sumC s := fun i => sum_take_le s i
  have hc0 := hl.cap
  have hc1 := hs.cap
  repeat' (first
   | (refine kO ?_; first | refine gv rfl rfl ?_ | refine gnil ?_ | refine gl rfl (lvb rfl rfl) rfl (fun _ => ?_) | refine gl rfl (lvB rfl rfl rfl) rfl (fun _ => ?_) | refine gl rfl (lve rfl rfl) rfl (fun _ => ?_) | refine gl rfl (lvE rfl rfl rfl) rfl (fun _ => ?_) | refine gl rfl (lva rfl rfl rfl rfl rfl) rfl (fun _ => ?_) | refine gp rfl (by (try simp only [InR]); omega) rfl ?_ | refine gf rfl rfl rfl ?_ | refine gix rfl rfl rfl rfl (by omega) rfl (fun _ => ?_) | refine gixa rfl rfl rfl rfl (by omega) rfl (fun _ => ?_) | (refine kK ?_; first | refine gcall rfl ?_ rfl (fun _ _ => ?_) (fun _ _ => ?_) | refine gcv rfl rfl ?_ rfl (fun _ _ => ?_) (fun _ _ => ?_) | refine gcc1 rfl rfl ?_ rfl (fun _ _ => ?_) (fun _ _ => ?_)) | refine gw rfl rfl ?_ | (refine kg ?_; (first | refine guardT rfl rfl rfl rfl (fun h => ?_) (fun h => ?_) | refine guardF rfl rfl rfl rfl (fun h => ?_) (fun h => ?_) | refine guardU rfl rfl rfl rfl ?_ | refine guardTH rfl rfl rfl rfl ?_ (fun h => ?_) (fun h => ?_) | refine guardFH rfl rfl rfl rfl ?_ (fun h => ?_) (fun h => ?_) | refine guardUH rfl rfl rfl rfl ?_ ?_) <;> (first | exact h.elim | (exfalso; omega) | exact absurd h (by assumption) | exact absurd (by assumption) h | skip)))
   | (refine kC ?_; first | refine gseq ?_ | refine greg ?_ | refine gret ?_ | refine gskip ?_ | (refine gcond rfl (fun h => ?_) (fun h => ?_) <;> (first | exact h.elim | (exfalso; omega) | exact absurd h (by assumption) | exact absurd (by assumption) h | skip)) | refine gblk ?_ | refine gexit ?_)
   | (refine kN ?_; first | refine gthen ?_ | refine gnblk ?_)
   | (refine kR ?_; first | refine grs ?_ | refine grb ?_ | refine grl ?_ | refine grc ?_)
   | (refine kX ?_; first | refine gxs ?_ | refine gxb ?_ | refine gxn rfl ?_ | refine gxl ?_ | refine gxc ?_)
   | (refine kR ?_; refine gr rfl (rvT rfl rv0) (_) rfl Ent.nil ?_)
   | (refine Pre.mk ?_; first | exact True.intro | omega | ((repeat' (first | refine And.intro ?_ ?_ | exact True.intro | assumption | omega)); done) | (simp only [and_true, true_and, or_true, true_or]; first | done | omega))
   | (refine kD ?_; first | exact dm_none))
  refine gloopc [0, 1] (fun (i : Nat) K => (5, .int .i64 (sumP (l.take i))) :: (6, .int .i64 i) :: K) (fun i => i ≤ l.length ∧ i ≤ 221 ∧ sumP (l.take i) ≤ 20000) (fun i => l.length - i) 0 rfl (by repeat (first | exact trivial | refine ⟨rfl, ?_⟩)) (by simp [sumP]) (fun i hi => ?_)
  have := b0 i
  by_cases hlt : i < l.length
  · have hs1 : sumP (l.take (i + 1)) = sumP (l.take i) + (ixd l i).push.length := sum_take hlt
    have := b0 (i + 1)
    have hpu : (ixd l (i : Int)).push.length ≤ 1099511627776 := hp.1 _ (by rw [ixd_eq (by omega)]; exact List.getElem_mem _)
    repeat' (first
     | (refine kO ?_; first | refine gv rfl rfl ?_ | refine gnil ?_ | refine gl rfl (lvb rfl rfl) rfl (fun _ => ?_) | refine gl rfl (lvB rfl rfl rfl) rfl (fun _ => ?_) | refine gl rfl (lve rfl rfl) rfl (fun _ => ?_) | refine gl rfl (lvE rfl rfl rfl) rfl (fun _ => ?_) | refine gl rfl (lva rfl rfl rfl rfl rfl) rfl (fun _ => ?_) | refine gp rfl (by (try simp only [InR]); omega) rfl ?_ | refine gf rfl rfl rfl ?_ | refine gix rfl rfl rfl rfl (by omega) rfl (fun _ => ?_) | refine gixa rfl rfl rfl rfl (by omega) rfl (fun _ => ?_) | (refine kK ?_; first | refine gcall rfl ?_ rfl (fun _ _ => ?_) (fun _ _ => ?_) | refine gcv rfl rfl ?_ rfl (fun _ _ => ?_) (fun _ _ => ?_) | refine gcc1 rfl rfl ?_ rfl (fun _ _ => ?_) (fun _ _ => ?_)) | refine gw rfl rfl ?_ | (refine kg ?_; (first | refine guardT rfl rfl rfl rfl (fun h => ?_) (fun h => ?_) | refine guardF rfl rfl rfl rfl (fun h => ?_) (fun h => ?_) | refine guardU rfl rfl rfl rfl ?_ | refine guardTH rfl rfl rfl rfl ?_ (fun h => ?_) (fun h => ?_) | refine guardFH rfl rfl rfl rfl ?_ (fun h => ?_) (fun h => ?_) | refine guardUH rfl rfl rfl rfl ?_ ?_) <;> (first | exact h.elim | (exfalso; omega) | exact absurd h (by assumption) | exact absurd (by assumption) h | skip)))
     | (refine kC ?_; first | refine gseq ?_ | refine greg ?_ | refine gret ?_ | refine gskip ?_ | (refine gcond rfl (fun h => ?_) (fun h => ?_) <;> (first | exact h.elim | (exfalso; omega) | exact absurd h (by assumption) | exact absurd (by assumption) h | skip)) | refine gblk ?_ | refine gexit ?_)
     | (refine kN ?_; first | refine gthen ?_ | refine gnblk ?_)
     | (refine kR ?_; first | refine grs ?_ | refine grb ?_ | refine grl ?_ | refine grc ?_)
     | (refine kX ?_; first | refine gxs ?_ | refine gxb ?_ | refine gxn rfl ?_ | refine gxl ?_ | refine gxc ?_)
     | (refine kR ?_; refine gr rfl (rvT rfl rv0) (_) rfl Ent.nil ?_)
     | (refine Pre.mk ?_; first | exact True.intro | omega | ((repeat' (first | refine And.intro ?_ ?_ | exact True.intro | assumption | omega)); done) | (simp only [and_true, true_and, or_true, true_or]; first | done | omega))
     | (refine kD ?_; first | exact dm_none))
    all_goals first
      | exact (decide_eq_true (by omega)).symm
      | (refine gnl (i + 1) ?_ (Ent.refl _) (by omega) (by omega)
         rw [hs1, Int.natCast_add]; exact (by repeat (first | exact trivial | refine ⟨rfl, ?_⟩)))
  · obtain rfl : i = l.length := by omega
    rw [List.take_length] at *
    repeat' (first
     | (refine kO ?_; first | refine gv rfl rfl ?_ | refine gnil ?_ | refine gl rfl (lvb rfl rfl) rfl (fun _ => ?_) | refine gl rfl (lvB rfl rfl rfl) rfl (fun _ => ?_) | refine gl rfl (lve rfl rfl) rfl (fun _ => ?_) | refine gl rfl (lvE rfl rfl rfl) rfl (fun _ => ?_) | refine gl rfl (lva rfl rfl rfl rfl rfl) rfl (fun _ => ?_) | refine gp rfl (by (try simp only [InR]); omega) rfl ?_ | refine gf rfl rfl rfl ?_ | refine gix rfl rfl rfl rfl (by omega) rfl (fun _ => ?_) | refine gixa rfl rfl rfl rfl (by omega) rfl (fun _ => ?_) | (refine kK ?_; first | refine gcall rfl ?_ rfl (fun _ _ => ?_) (fun _ _ => ?_) | refine gcv rfl rfl ?_ rfl (fun _ _ => ?_) (fun _ _ => ?_) | refine gcc1 rfl rfl ?_ rfl (fun _ _ => ?_) (fun _ _ => ?_)) | refine gw rfl rfl ?_ | (refine kg ?_; (first | refine guardT rfl rfl rfl rfl (fun h => ?_) (fun h => ?_) | refine guardF rfl rfl rfl rfl (fun h => ?_) (fun h => ?_) | refine guardU rfl rfl rfl rfl ?_ | refine guardTH rfl rfl rfl rfl ?_ (fun h => ?_) (fun h => ?_) | refine guardFH rfl rfl rfl rfl ?_ (fun h => ?_) (fun h => ?_) | refine guardUH rfl rfl rfl rfl ?_ ?_) <;> (first | exact h.elim | (exfalso; omega) | exact absurd h (by assumption) | exact absurd (by assumption) h | skip)))
     | (refine kC ?_; first | refine gseq ?_ | refine greg ?_ | refine gret ?_ | refine gskip ?_ | (refine gcond rfl (fun h => ?_) (fun h => ?_) <;> (first | exact h.elim | (exfalso; omega) | exact absurd h (by assumption) | exact absurd (by assumption) h | skip)) | refine gblk ?_ | refine gexit ?_)
     | (refine kN ?_; first | refine gthen ?_ | refine gnblk ?_)
     | (refine kR ?_; first | refine grs ?_ | refine grb ?_ | refine grl ?_ | refine grc ?_)
     | (refine kX ?_; first | refine gxs ?_ | refine gxb ?_ | refine gxn rfl ?_ | refine gxl ?_ | refine gxc ?_)
     | (refine kR ?_; refine gr rfl (rvT rfl rv0) (_) rfl Ent.nil ?_)
     | (refine Pre.mk ?_; first | exact True.intro | omega | ((repeat' (first | refine And.intro ?_ ?_ | exact True.intro | assumption | omega)); done) | (simp only [and_true, true_and, or_true, true_or]; first | done | omega))
     | (refine kD ?_; first | exact dm_none))
    refine gloopc [1] (fun (i : Nat) K => (5, .int .i64 ((sumP l + sumC (s.take i) : Nat) : Int)) :: (7, .int .i64 i) :: K) (fun i => i ≤ s.length ∧ i ≤ 81 ∧ sumP l + sumC (s.take i) ≤ 20000) (fun i => s.length - i) 0 rfl (by repeat (first | exact trivial | refine ⟨rfl, ?_⟩)) ⟨by omega, by omega, by simp [sumC]; omega⟩ (fun i hi2 => ?_)
    have := b1 i
    by_cases hlt : i < s.length
    · have hs1 : sumC (s.take (i + 1)) = sumC (s.take i) + (ixd s i).2.length := sum_take hlt
      have := b1 (i + 1)
      have hpu : (ixd s (i : Int)).2.length ≤ 1099511627776 := hp.2 _ (by rw [ixd_eq (by omega)]; exact List.getElem_mem _)
      repeat' (first
       | (refine kO ?_; first | refine gv rfl rfl ?_ | refine gnil ?_ | refine gl rfl (lvb rfl rfl) rfl (fun _ => ?_) | refine gl rfl (lvB rfl rfl rfl) rfl (fun _ => ?_) | refine gl rfl (lve rfl rfl) rfl (fun _ => ?_) | refine gl rfl (lvE rfl rfl rfl) rfl (fun _ => ?_) | refine gl rfl (lva rfl rfl rfl rfl rfl) rfl (fun _ => ?_) | refine gp rfl (by (try simp only [InR]); omega) rfl ?_ | refine gf rfl rfl rfl ?_ | refine gix rfl rfl rfl rfl (by omega) rfl (fun _ => ?_) | refine gixa rfl rfl rfl rfl (by omega) rfl (fun _ => ?_) | (refine kK ?_; first | refine gcall rfl ?_ rfl (fun _ _ => ?_) (fun _ _ => ?_) | refine gcv rfl rfl ?_ rfl (fun _ _ => ?_) (fun _ _ => ?_) | refine gcc1 rfl rfl ?_ rfl (fun _ _ => ?_) (fun _ _ => ?_)) | refine gw rfl rfl ?_ | (refine kg ?_; (first | refine guardT rfl rfl rfl rfl (fun h => ?_) (fun h => ?_) | refine guardF rfl rfl rfl rfl (fun h => ?_) (fun h => ?_) | refine guardU rfl rfl rfl rfl ?_ | refine guardTH rfl rfl rfl rfl ?_ (fun h => ?_) (fun h => ?_) | refine guardFH rfl rfl rfl rfl ?_ (fun h => ?_) (fun h => ?_) | refine guardUH rfl rfl rfl rfl ?_ ?_) <;> (first | exact h.elim | (exfalso; omega) | exact absurd h (by assumption) | exact absurd (by assumption) h | skip)))
       | (refine kC ?_; first | refine gseq ?_ | refine greg ?_ | refine gret ?_ | refine gskip ?_ | (refine gcond rfl (fun h => ?_) (fun h => ?_) <;> (first | exact h.elim | (exfalso; omega) | exact absurd h (by assumption) | exact absurd (by assumption) h | skip)) | refine gblk ?_ | refine gexit ?_)
       | (refine kN ?_; first | refine gthen ?_ | refine gnblk ?_)
       | (refine kR ?_; first | refine grs ?_ | refine grb ?_ | refine grl ?_ | refine grc ?_)
       | (refine kX ?_; first | refine gxs ?_ | refine gxb ?_ | refine gxn rfl ?_ | refine gxl ?_ | refine gxc ?_)
       | (refine kR ?_; refine gr rfl (rvT rfl rv0) (_) rfl Ent.nil ?_)
       | (refine Pre.mk ?_; first | exact True.intro | omega | ((repeat' (first | refine And.intro ?_ ?_ | exact True.intro | assumption | omega)); done) | (simp only [and_true, true_and, or_true, true_or]; first | done | omega))
       | (refine kD ?_; first | exact dm_none))
      all_goals first
        | exact (decide_eq_true (by omega)).symm
        | (refine gnl (i + 1) ?_ (Ent.refl _) (by omega) (by omega)
           rw [hs1, ← Nat.add_assoc, Int.natCast_add (sumP l + _)]; exact (by repeat (first | exact trivial | refine ⟨rfl, ?_⟩)))
    · obtain rfl : i = s.length := by omega
      rw [List.take_length] at *
      repeat' (first
       | (refine kO ?_; first | refine gv rfl rfl ?_ | refine gnil ?_ | refine gl rfl (lvb rfl rfl) rfl (fun _ => ?_) | refine gl rfl (lvB rfl rfl rfl) rfl (fun _ => ?_) | refine gl rfl (lve rfl rfl) rfl (fun _ => ?_) | refine gl rfl (lvE rfl rfl rfl) rfl (fun _ => ?_) | refine gl rfl (lva rfl rfl rfl rfl rfl) rfl (fun _ => ?_) | refine gp rfl (by (try simp only [InR]); omega) rfl ?_ | refine gf rfl rfl rfl ?_ | refine gix rfl rfl rfl rfl (by omega) rfl (fun _ => ?_) | refine gixa rfl rfl rfl rfl (by omega) rfl (fun _ => ?_) | (refine kK ?_; first | refine gcall rfl ?_ rfl (fun _ _ => ?_) (fun _ _ => ?_) | refine gcv rfl rfl ?_ rfl (fun _ _ => ?_) (fun _ _ => ?_) | refine gcc1 rfl rfl ?_ rfl (fun _ _ => ?_) (fun _ _ => ?_)) | refine gw rfl rfl ?_ | (refine kg ?_; (first | refine guardT rfl rfl rfl rfl (fun h => ?_) (fun h => ?_) | refine guardF rfl rfl rfl rfl (fun h => ?_) (fun h => ?_) | refine guardU rfl rfl rfl rfl ?_ | refine guardTH rfl rfl rfl rfl ?_ (fun h => ?_) (fun h => ?_) | refine guardFH rfl rfl rfl rfl ?_ (fun h => ?_) (fun h => ?_) | refine guardUH rfl rfl rfl rfl ?_ ?_) <;> (first | exact h.elim | (exfalso; omega) | exact absurd h (by assumption) | exact absurd (by assumption) h | skip)))
       | (refine kC ?_; first | refine gseq ?_ | refine greg ?_ | refine gret ?_ | refine gskip ?_ | (refine gcond rfl (fun h => ?_) (fun h => ?_) <;> (first | exact h.elim | (exfalso; omega) | exact absurd h (by assumption) | exact absurd (by assumption) h | skip)) | refine gblk ?_ | refine gexit ?_)
       | (refine kN ?_; first | refine gthen ?_ | refine gnblk ?_)
       | (refine kR ?_; first | refine grs ?_ | refine grb ?_ | refine grl ?_ | refine grc ?_)
       | (refine kX ?_; first | refine gxs ?_ | refine gxb ?_ | refine gxn rfl ?_ | refine gxl ?_ | refine gxc ?_)
       | (refine kR ?_; refine gr rfl (rvT rfl rv0) (_) rfl Ent.nil ?_)
       | (refine Pre.mk ?_; first | exact True.intro | omega | ((repeat' (first | refine And.intro ?_ ?_ | exact True.intro | assumption | omega)); done) | (simp only [and_true, true_and, or_true, true_or]; first | done | omega))
       | (refine kD ?_; first | exact dm_none))
      exact (decide_eq_false (by omega)).symm
instance c_law14_great {lA : Option Addr} {lc ln : Nat} {l : List StG} {sA : Option Addr} {sc sn : Nat} {s : List BsG} {w0 : World} {X : Nat → Prop} {L : List Assn} [hl : Rw w0 X L (.slice lA ln lc) RSt l] [q_l : StR w0 X L l] [hs : Rw w0 X L (.slice sA sn sc) RBs s] [q_s : BsR w0 X L s] : Ctr Tryd.prog 12 [.slice lA ln lc, .slice sA sn sc] w0 X L ((∀ g ∈ l, g.push.length ≤ 1099511627776) ∧ ∀ x ∈ s, x.2.length ≤ 1099511627776) (fun _ : Unit => .bool (decide (20000 < sumP l + sumC s ∨ 221 < l.length ∨ 81 < s.length))) (fun _ : Unit => L) (fun _ : Unit => True) :=
  ctr' (M' := (fun _ : Unit => [])) (by kernel_rfl) (fun hp w hw => by have el := hl.len hw; subst el; have es := hs.len hw; subst es; exact law14_great _ _ _ _ _ _ w (hl.get w hw) (q_l.get w hw) (hs.get w hw) (q_s.get w hw) hp) (by rintro hp e0 rfl ok; exact ⟨(), rfl, rfl, trivial⟩)
theorem law14_small (sA : Option Addr) (sc : Nat) (s : List BsG) (w0 : World) (hs : Slr w0 RBs (.slice sA s.length sc) s) (q_s : BsP w0 s)  :
    Ct Tryd.prog 19 [.slice sA s.length sc] w0 no (fun ((e0) : Bool) => .bool e0) (fun (e0) => []) (fun (e0) => e0 = decide (∀ c ∈ s.map bsK, c.length ≤ 3000)) := by
  have hst := St.start w0
  have i_s := Rw.old hs
  have j_s := BsR.old q_s
  refine genter _ hst Tryd.func19 rfl rfl rfl rfl ?_
  have hcap := hs.cap
  repeat' (first
   | (refine kO ?_; first | refine gv rfl rfl ?_ | refine gnil ?_ | refine gl rfl (lvb rfl rfl) rfl (fun _ => ?_) | refine gl rfl (lvB rfl rfl rfl) rfl (fun _ => ?_) | refine gl rfl (lve rfl rfl) rfl (fun _ => ?_) | refine gl rfl (lvE rfl rfl rfl) rfl (fun _ => ?_) | refine gl rfl (lva rfl rfl rfl rfl rfl) rfl (fun _ => ?_) | refine gp rfl (by (try simp only [InR]); omega) rfl ?_ | refine gix rfl rfl rfl rfl (by omega) rfl (fun _ => ?_) | refine gixa rfl rfl rfl rfl (by omega) rfl (fun _ => ?_) | (refine kK ?_; first | refine gcall rfl ?_ rfl (fun _ _ => ?_) (fun _ _ => ?_) | refine gcv rfl rfl ?_ rfl (fun _ _ => ?_) (fun _ _ => ?_) | refine gcc1 rfl rfl ?_ rfl (fun _ _ => ?_) (fun _ _ => ?_)) | refine gw rfl rfl ?_)
   | (refine kC ?_; first | refine gseq ?_ | refine greg ?_ | refine gret ?_ | refine gskip ?_ | (refine gcond rfl (fun h => ?_) (fun h => ?_) <;> (first | exact h.elim | (exfalso; omega) | exact absurd h (by assumption) | exact absurd (by assumption) h | skip)) | refine gblk ?_ | refine gexit ?_)
   | (refine kN ?_; first | refine gthen ?_ | refine gnblk ?_)
   | (refine kR ?_; first | refine grs ?_ | refine grb ?_ | refine grl ?_ | refine grc ?_)
   | (refine kX ?_; first | refine gxs ?_ | refine gxb ?_ | refine gxn rfl ?_ | refine gxl ?_ | refine gxc ?_)
   | (refine kR ?_; refine gr rfl (rvT rfl rv0) (_) rfl Ent.nil ?_)
   | (refine Pre.mk ?_; first | exact True.intro | omega | ((repeat' (first | refine And.intro ?_ ?_ | exact True.intro | assumption | omega)); done) | (simp only [and_true, true_and, or_true, true_or]; first | done | omega))
   | (refine kD ?_; first | exact dm_none))
  refine gloopc [0] (fun (i : Nat) K => (3, .int .i64 i) :: K) (fun i => i ≤ s.length ∧ ∀ j : Nat, j < i → (ixd s (j : Int)).2.length ≤ 3000) (fun i => s.length - i) 0 rfl (by repeat (first | exact trivial | refine ⟨rfl, ?_⟩)) (by simp) (fun i hi => ?_)
  repeat' (first
   | (refine kO ?_; first | refine gv rfl rfl ?_ | refine gnil ?_ | refine gl rfl (lvb rfl rfl) rfl (fun _ => ?_) | refine gl rfl (lvB rfl rfl rfl) rfl (fun _ => ?_) | refine gl rfl (lve rfl rfl) rfl (fun _ => ?_) | refine gl rfl (lvE rfl rfl rfl) rfl (fun _ => ?_) | refine gl rfl (lva rfl rfl rfl rfl rfl) rfl (fun _ => ?_) | refine gp rfl (by (try simp only [InR]); omega) rfl ?_ | refine gix rfl rfl rfl rfl (by omega) rfl (fun _ => ?_) | refine gixa rfl rfl rfl rfl (by omega) rfl (fun _ => ?_) | (refine kK ?_; first | refine gcall rfl ?_ rfl (fun _ _ => ?_) (fun _ _ => ?_) | refine gcv rfl rfl ?_ rfl (fun _ _ => ?_) (fun _ _ => ?_) | refine gcc1 rfl rfl ?_ rfl (fun _ _ => ?_) (fun _ _ => ?_)) | refine gw rfl rfl ?_)
   | (refine kC ?_; first | refine gseq ?_ | refine greg ?_ | refine gret ?_ | refine gskip ?_ | (refine gcond rfl (fun h => ?_) (fun h => ?_) <;> (first | exact h.elim | (exfalso; omega) | exact absurd h (by assumption) | exact absurd (by assumption) h | skip)) | refine gblk ?_ | refine gexit ?_)
   | (refine kN ?_; first | refine gthen ?_ | refine gnblk ?_)
   | (refine kR ?_; first | refine grs ?_ | refine grb ?_ | refine grl ?_ | refine grc ?_)
   | (refine kX ?_; first | refine gxs ?_ | refine gxb ?_ | refine gxn rfl ?_ | refine gxl ?_ | refine gxc ?_)
   | (refine kR ?_; refine gr rfl (rvT rfl rv0) (_) rfl Ent.nil ?_)
   | (refine Pre.mk ?_; first | exact True.intro | omega | ((repeat' (first | refine And.intro ?_ ?_ | exact True.intro | assumption | omega)); done) | (simp only [and_true, true_and, or_true, true_or]; first | done | omega))
   | (refine kD ?_; first | exact dm_none))
  · refine (decide_eq_false fun hc => ?_).symm
    have := hc (ixd s (i : Int)).2 (List.mem_map.2 ⟨ixd s (i : Int), by rw [ixd_eq (by omega)]; exact List.getElem_mem _, rfl⟩)
    omega
  · refine gnl (i + 1) (by repeat (first | exact trivial | refine ⟨rfl, ?_⟩)) (Ent.refl _) ⟨by omega, fun j hj => ?_⟩ (by omega)
    by_cases e : j = i
    · subst e; omega
    · exact hi.2 j (by omega)
  · refine (decide_eq_true fun c hc => ?_).symm
    obtain ⟨y, hy, rfl⟩ := List.mem_map.1 hc
    obtain ⟨j, hj, rfl⟩ := List.mem_iff_getElem.1 hy
    have := hi.2 j (by omega)
    rw [ixd_eq (by omega)] at this; exact this
instance c_law14_small {sA : Option Addr} {sc sn : Nat} {s : List BsG} {w0 : World} {X : Nat → Prop} {L : List Assn} [hs : Rw w0 X L (.slice sA sn sc) RBs s] [q_s : BsR w0 X L s] : Ctr Tryd.prog 19 [.slice sA sn sc] w0 X L (True) (fun _ : Unit => .bool (decide (∀ c ∈ s.map bsK, c.length ≤ 3000))) (fun _ : Unit => L) (fun _ : Unit => True) :=
  ctr' (M' := (fun _ : Unit => [])) (by kernel_rfl) (fun hp w hw => by have es := hs.len hw; subst es; exact law14_small _ _ _ w (hs.get w hw) (q_s.get w hw)) (by rintro hp e0 rfl ok; exact ⟨(), rfl, rfl, trivial⟩)
/-! the laws' fixed cases -/
def z32 : List UInt8 := List.replicate 32 0
theorem live1 : stepsX [(2, []), (1, [5]), (3, []), (6, []), (4, [])] [[1]] 0 (List.replicate 32 0) = ([[5]], 0) := by decide +kernel
theorem live2 : runE [] [] 0 (List.replicate 32 0) = 8 := by decide +kernel
theorem live3 : runE [] [1, 1] 0 (List.replicate 32 0) = 0 := by decide +kernel
theorem live4 : runE [134] [] 0 (List.replicate 32 0) = 5 := by decide +kernel
theorem live5 : soundB [4] = false := by decide +kernel
instance StR.consN {w0 : World} {X : Nat → Prop} {L : List Assn} {o : Int} {gs : List StG} [h' : StR w0 X L gs] : StR w0 X L (⟨o, [], ⟨none, 0⟩⟩ :: gs) := ⟨fun w hw x hx => by
  rcases List.mem_cons.1 hx with rfl | hx
  · exact rwNilB.get w hw
  · exact h'.get w hw x hx⟩
instance : ZS Tryd.prog 27 [.one (.int .u32 0), .blk 32 (RB.all (List.replicate 32 0))] := ⟨by kernel_rfl, by simp [okS, RB, Rep.all, flat, Cs.cells]⟩
section
variable {P : Program} {n : Nat} {w0 : World} {X : Nat → Prop} {Q : Cont} {E : Env} {L : List Assn} {s : Ms} {ops : Array Oper} {rest : List Oper}
variable {d : Nat} {ty : TypeId} {pos : String} {aft : Array Edge}
theorem gbbl {t e : TypeId} {len bytes : Nat} {parts : List (Nat × Operand)} {ps : List (Nat × Value)} {gs : List UInt8} {p : Prop} (ht : P.underlying t = some (.slice e)) [hE : EL P e 1 bytes] (hp : evps E parts = some ps) (hq : bysOf ps 0 = some (gs, p)) (hpp : p) (hn : gs.length = len) (hlen : Nat.ble (len * 1) 1000000 = true) (hpos : Nat.beq len 0 = false) (hd : Nat.blt d n = true)
    (hD : ∀ s' : Sv, Dm w0 X ops s (rw_ e RB s' gs.length gs :: L)) (kk : ∀ s' : Sv, GO P n w0 X (nextM s) ops rest Q ((d, .slice s'.A gs.length s'.c) :: E) (rw_ e RB s' gs.length gs :: L)) :
    GO P n w0 X s ops (⟨some d, .buildSlice t len parts.toArray, ty, pos, aft, none⟩ :: rest) Q E L := by
  subst hn
  exact gbb ht hp hq hpp rfl hlen hpos hd hD kk
end
theorem law14_lives  (w0 : World) (hK : KOk w0)  :
    Ct Tryd.prog 9 [] w0 no (fun ((e0) : Bool) => .bool e0) (fun (e0) => []) (fun (e0) => e0 = true) := by
  have hst := St.start w0
  have j_hK := KR.old hK
  refine genter _ hst Tryd.func9 rfl rfl rfl rfl ?_
  have l2 : runE [] [] 0 (List.replicate 32 0) = 8 := live2
  have l3 : runE [] [u8 1, u8 1] 0 (List.replicate 32 0) = 0 := live3
  have l4 : runE [u8 134] [] 0 (List.replicate 32 0) = 5 := live4
  have l5 : soundB (opsK [⟨4, [], ⟨none, 0⟩⟩]) = false := live5
  repeat' (first
   | (refine kO ?_; first | refine gbbl rfl rfl rfl (by first | (simp; done) | (simp only [and_true]; omega)) rfl rfl rfl rfl (fun _ => ?_) (fun _ => ?_) | refine gbs RSt rfl rfl rfl rfl rfl rfl (fun _ => ?_) (fun _ => ?_) | refine gbs RBs rfl rfl rfl rfl rfl rfl (fun _ => ?_) (fun _ => ?_) | refine gv rfl rfl ?_ | refine gnil ?_ | refine gl rfl (lvb rfl rfl) rfl (fun _ => ?_) | refine gl rfl (lvB rfl rfl rfl) rfl (fun _ => ?_) | refine gl rfl (lve rfl rfl) rfl (fun _ => ?_) | refine gl rfl (lvE rfl rfl rfl) rfl (fun _ => ?_) | refine gl rfl (lva rfl rfl rfl rfl rfl) rfl (fun _ => ?_) | refine gp rfl (by (try simp only [InR]); omega) rfl ?_ | refine gix rfl rfl rfl rfl (by omega) rfl (fun _ => ?_) | refine gixa rfl rfl rfl rfl (by omega) rfl (fun _ => ?_) | (refine kK ?_; first | refine gcall rfl ?_ rfl (fun _ _ => ?_) (fun _ _ => ?_) | refine gcv rfl rfl ?_ rfl (fun _ _ => ?_) (fun _ _ => ?_) | refine gcc1 rfl rfl ?_ rfl (fun _ _ => ?_) (fun _ _ => ?_)) | refine geql rfl rfl (by kernel_rfl) ?_ rfl ?_ | refine gbu rfl rfl rfl rfl rfl ?_ | refine gbs RB rfl rfl rfl rfl rfl rfl (fun _ => ?_) (fun _ => ?_) | refine gbb rfl rfl rfl (by first | (simp; done) | (simp only [and_true]; omega)) rfl rfl rfl rfl (fun _ => ?_) (fun _ => ?_) | (refine kg ?_; (first | refine guardT rfl rfl rfl rfl (fun h => ?_) (fun h => ?_) | refine guardF rfl rfl rfl rfl (fun h => ?_) (fun h => ?_) | refine guardU rfl rfl rfl rfl ?_ | refine guardTH rfl rfl rfl rfl ?_ (fun h => ?_) (fun h => ?_) | refine guardFH rfl rfl rfl rfl ?_ (fun h => ?_) (fun h => ?_) | refine guardUH rfl rfl rfl rfl ?_ ?_) <;> (first | exact h.elim | (exfalso; omega) | exact absurd h (by assumption) | exact absurd (by assumption) h | skip)))
   | (refine kC ?_; first | refine gseq ?_ | refine greg ?_ | refine gret ?_ | refine gskip ?_)
   | (refine kN ?_; first | refine gthen ?_)
   | (refine kR ?_; first | refine grs ?_ | refine grc ?_)
   | (refine kR ?_; refine gr rfl (rvT rfl rv0) (_) rfl Ent.nil ?_)
   | (refine Pre.mk ?_; first | exact True.intro | omega | ((repeat' (first | refine And.intro ?_ ?_ | exact True.intro | assumption | omega)); done) | (simp only [and_true, true_and, or_true, true_or]; first | done | omega))
   | (refine kD ?_; first | exact dm_none))
  · exact Pre.mk ⟨by simp [StN], by omega, by simp, by simp⟩
  · rename (True ∧ List.map bsK _ = (stepsX _ _ 0 _).1 ∧ _) => hx
    rename_i x _ _ _ _ _ _ _ _
    have e1 : x.gs.map bsK = [[5]] := hx.2.1.trans (congrArg Prod.fst live1)
    have e2 := ixd_getD (gs := x.gs) (i := 0)
    rw [e1] at e2
    have e3 : (ixd x.gs (0 : Int)).2 = [5] := e2
    have e4 : (ixd x.gs (0 : Int)).2.length = 1 := by rw [e3]; rfl
    have e5 : ((ixd (ixd x.gs (0 : Int)).2 (0 : Int)).toNat : Int) = 5 := by rw [e3]; rfl
    repeat' (first
     | (refine kO ?_; first | refine gbbl rfl rfl rfl (by first | (simp; done) | (simp only [and_true]; omega)) rfl rfl rfl rfl (fun _ => ?_) (fun _ => ?_) | refine gbs RSt rfl rfl rfl rfl rfl rfl (fun _ => ?_) (fun _ => ?_) | refine gbs RBs rfl rfl rfl rfl rfl rfl (fun _ => ?_) (fun _ => ?_) | refine gv rfl rfl ?_ | refine gnil ?_ | refine gl rfl (lvb rfl rfl) rfl (fun _ => ?_) | refine gl rfl (lvB rfl rfl rfl) rfl (fun _ => ?_) | refine gl rfl (lve rfl rfl) rfl (fun _ => ?_) | refine gl rfl (lvE rfl rfl rfl) rfl (fun _ => ?_) | refine gl rfl (lva rfl rfl rfl rfl rfl) rfl (fun _ => ?_) | refine gp rfl (by (try simp only [InR]); omega) rfl ?_ | refine gix rfl rfl rfl rfl (by omega) rfl (fun _ => ?_) | refine gixa rfl rfl rfl rfl (by omega) rfl (fun _ => ?_) | (refine kK ?_; first | refine gcall rfl ?_ rfl (fun _ _ => ?_) (fun _ _ => ?_) | refine gcv rfl rfl ?_ rfl (fun _ _ => ?_) (fun _ _ => ?_) | refine gcc1 rfl rfl ?_ rfl (fun _ _ => ?_) (fun _ _ => ?_)) | refine geql rfl rfl (by kernel_rfl) ?_ rfl ?_ | refine gbu rfl rfl rfl rfl rfl ?_ | refine gbs RB rfl rfl rfl rfl rfl rfl (fun _ => ?_) (fun _ => ?_) | refine gbb rfl rfl rfl (by first | (simp; done) | (simp only [and_true]; omega)) rfl rfl rfl rfl (fun _ => ?_) (fun _ => ?_) | (refine kg ?_; (first | refine guardT rfl rfl rfl rfl (fun h => ?_) (fun h => ?_) | refine guardF rfl rfl rfl rfl (fun h => ?_) (fun h => ?_) | refine guardU rfl rfl rfl rfl ?_ | refine guardTH rfl rfl rfl rfl ?_ (fun h => ?_) (fun h => ?_) | refine guardFH rfl rfl rfl rfl ?_ (fun h => ?_) (fun h => ?_) | refine guardUH rfl rfl rfl rfl ?_ ?_) <;> (first | exact h.elim | (exfalso; omega) | exact absurd h (by assumption) | exact absurd (by assumption) h | skip)))
     | (refine kC ?_; first | refine gseq ?_ | refine greg ?_ | refine gret ?_ | refine gskip ?_)
     | (refine kN ?_; first | refine gthen ?_)
     | (refine kR ?_; first | refine grs ?_ | refine grc ?_)
     | (refine kR ?_; refine gr rfl (rvT rfl rv0) (_) rfl Ent.nil ?_)
     | exact Pre.mk (by simp [StN])
     | (refine Pre.mk ?_; first | exact True.intro | omega | ((repeat' (first | refine And.intro ?_ ?_ | exact True.intro | assumption | omega)); done) | (simp only [and_true, true_and, or_true, true_or]; first | done | omega))
     | (refine kD ?_; first | exact dm_none))
    rw [l5]; rfl
  · rename (True ∧ List.map bsK _ = (stepsX _ _ 0 _).1 ∧ _) => hx
    rename (¬ _ = (1 : Int)) => h9
    have h7 := hx.2.2.trans (congrArg (fun t => t.1.length) live1)
    exact absurd (by rw [h7]; rfl) h9
  all_goals
    rename (¬ (stepsX _ _ _ _).2 = 0) => h9
    exact absurd (congrArg Prod.snd live1) h9
instance c_law14_lives  {w0 : World} {X : Nat → Prop} {L : List Assn} [hK : KR w0 X L] : Ctr Tryd.prog 9 [] w0 X L (True) (fun _ : Unit => .bool (true)) (fun _ : Unit => L) (fun _ : Unit => True) :=
  ctr' (M' := (fun _ : Unit => [])) (by kernel_rfl) (fun hp w hw => by exact law14_lives  w (hK.get w hw)) (by rintro hp e0 rfl ok; exact ⟨(), rfl, rfl, trivial⟩)
end Go.Proofs.YtkjpemkankefnaaDoor

/-!
  moneyerlaw14: ExecRuns, ExecOpens, ExecSteps, ExecParts.
-/
namespace Go.Proofs.YtkjpemkankefnaaDoor
open Go.RowKit

theorem putSL_len (l : List Stp) : (putSL l).length ≤ 1000000 := by
  unfold putSL
  split
  · rename_i h
    have h1 := putSE_0 h
    have := flatS_len h1.1
    have := h1.2
    omega
  · simp
theorem bs_big {s : List BsG} (h : s.length ≤ 81) (h2 : ∀ x ∈ s, x.2.length ≤ 1099511627776) : s.length ≤ 1000000 ∧ ∀ b ∈ s, b.2.length ≤ 140737488351232 := ⟨by omega, fun b hb => by have := h2 b hb; omega⟩
theorem law14_Runs (uA : Option Addr) (uc : Nat) (u : List UInt8) (kA : Option Addr) (kc : Nat) (k : List UInt8) (ht : Int) (dg : List UInt8) [hdg : LenIs dg 32] (w0 : World) (hK : KOk w0) (hu : Slr w0 RB (.slice uA u.length uc) u) (hk : Slr w0 RB (.slice kA k.length kc) k) (hp : 0 ≤ ht ∧ ht ≤ 4294967295) :
    Ct Tryd.prog 3 [.slice uA u.length uc, .slice kA k.length kc, Ag [.one (.int .u32 ht), .blk 32 (RB.all dg)]] w0 no (fun ((e0) : Bool) => .bool e0) (fun (e0) => []) (fun (e0) => e0 = true) := by
  have hst := St.start w0
  have j_hK := KR.old hK
  have i_u := Rw.old hu
  have i_k := Rw.old hk
  refine genter _ hst Tryd.func3 rfl rfl rfl rfl ?_
  repeat' (first
   | (refine kO ?_; first | refine gv rfl rfl ?_ | refine gnil ?_ | refine gnilD ?_ | refine gl rfl (lvb rfl rfl) rfl (fun _ => ?_) | refine gl rfl (lvB rfl rfl rfl) rfl (fun _ => ?_) | refine gl rfl (lve rfl rfl) rfl (fun _ => ?_) | refine gl rfl (lvE rfl rfl rfl) rfl (fun _ => ?_) | refine gl rfl (lva rfl rfl rfl rfl rfl) rfl (fun _ => ?_) | refine gp rfl (by (try simp only [InR]); omega) rfl ?_ | (refine kK ?_; first | refine gcall rfl ?_ rfl (fun _ _ => ?_) (fun _ _ => ?_) | refine gcv rfl rfl ?_ rfl (fun _ _ => ?_) (fun _ _ => ?_) | refine gcc1 rfl rfl ?_ rfl (fun _ _ => ?_) (fun _ _ => ?_)) | refine geql rfl rfl (by kernel_rfl) ?_ rfl ?_ | refine gx rfl rfl (fun _ => ?_) (fun _ => ?_) | (refine kg ?_; (first | refine guardT rfl rfl rfl rfl (fun h => ?_) (fun h => ?_) | refine guardF rfl rfl rfl rfl (fun h => ?_) (fun h => ?_) | refine guardU rfl rfl rfl rfl ?_ | refine guardTH rfl rfl rfl rfl ?_ (fun h => ?_) (fun h => ?_) | refine guardFH rfl rfl rfl rfl ?_ (fun h => ?_) (fun h => ?_) | refine guardUH rfl rfl rfl rfl ?_ ?_) <;> (first | exact h.elim | (exfalso; omega) | exact absurd h (by assumption) | exact absurd (by assumption) h | skip)))
   | (refine kC ?_; first | refine gseq ?_ | refine greg ?_ | refine gret ?_ | refine gskip ?_ | refine gdraw (id := 3) [0,1,2,4,5,6,3,7,8,9,10,11,12] (by kernel_rfl) (by kernel_rfl) rfl ?_ | (refine gcond rfl (fun h => ?_) (fun h => ?_) <;> (first | exact h.elim | (exfalso; omega) | exact absurd h (by assumption) | exact absurd (by assumption) h | skip)))
   | (refine kN ?_; first | refine gthen ?_)
   | (refine kR ?_; first | refine grs ?_ | refine grc ?_)
   | (refine kR ?_; refine gr rfl (rvT rfl rv0) (_) rfl Ent.nil ?_)
   | (refine Pre.mk ?_; first | exact True.intro | omega | ((repeat' (first | refine And.intro ?_ ?_ | exact True.intro | assumption | omega)); done) | (simp only [and_true, true_and, or_true, true_or]; first | done | omega))
   | (refine kD ?_; first | exact dm_none | exact dm0 | refine dmOff rfl ?_ | refine dmOn (lvb rfl rfl) ?_ | refine dmOn (lvB rfl rfl rfl) ?_ | refine dmOn (lve rfl rfl) ?_ | refine dmOn (lvE rfl rfl rfl) ?_ | refine dmOn (lva rfl rfl rfl rfl rfl) ?_))
  all_goals rfl
instance c_law14_Runs {uA : Option Addr} {uc un : Nat} {u : List UInt8} {kA : Option Addr} {kc kn : Nat} {k : List UInt8} {ht : Int} {dg : List UInt8} {w0 : World} {X : Nat → Prop} {L : List Assn} [hK : KR w0 X L] [hu : Rw w0 X L (.slice uA un uc) RB u] [hk : Rw w0 X L (.slice kA kn kc) RB k] [hdg : LenIs dg 32] : Ctr Tryd.prog 3 [.slice uA un uc, .slice kA kn kc, Ag [.one (.int .u32 ht), .blk 32 (RB.all dg)]] w0 X L (0 ≤ ht ∧ ht ≤ 4294967295) (fun _ : Unit => .bool (true)) (fun _ : Unit => L) (fun _ : Unit => True) :=
  ctr' (M' := (fun _ : Unit => [])) (by kernel_rfl) (fun hp w hw => by have eu := hu.len hw; subst eu; have ek := hk.len hw; subst ek; exact law14_Runs _ _ _ _ _ _ _ _ w (hK.get w hw) (hu.get w hw) (hk.get w hw) hp) (by rintro hp e0 rfl ok; exact ⟨(), rfl, rfl, trivial⟩)
theorem law14_Opens (uA : Option Addr) (uc : Nat) (u : List StG) (kA : Option Addr) (kc : Nat) (k : List StG) (ht : Int) (dg : List UInt8) [hdg : LenIs dg 32] (w0 : World) (hK : KOk w0) (hu : Slr w0 RSt (.slice uA u.length uc) u) (q_u : StP w0 u) (hk : Slr w0 RSt (.slice kA k.length kc) k) (q_k : StP w0 k) (hp : (0 ≤ ht ∧ ht ≤ 4294967295) ∧ (StN u ∧ StN k) ∧ (∀ g ∈ u, g.push.length ≤ 1099511627776) ∧ (∀ g ∈ k, g.push.length ≤ 1099511627776)) :
    Ct Tryd.prog 4 [.slice uA u.length uc, .slice kA k.length kc, Ag [.one (.int .u32 ht), .blk 32 (RB.all dg)]] w0 no (fun ((e0) : Bool) => .bool e0) (fun (e0) => []) (fun (e0) => e0 = true) := by
  have hst := St.start w0
  have j_hK := KR.old hK
  have i_u := Rw.old hu
  have j_u := StR.old q_u
  have i_k := Rw.old hk
  have j_k := StR.old q_k
  refine genter _ hst Tryd.func4 rfl rfl rfl rfl ?_
  have i_nil : ∀ {X : Nat → Prop} {L : List Assn}, Rw w0 X L (.slice none 0 0) RBs ([] : List BsG) := fun {X L} => ⟨fun _ _ => ⟨none, 0, rfl, by simp [Rep.all], Nat.le_refl _, by decide, fun h => absurd h (by simp [Rep.all])⟩⟩
  have q1 := putSL_len (u.map stK)
  have q2 := putSL_len (k.map stK)
  repeat' (first
   | (refine kO ?_; first | refine gv rfl rfl ?_ | refine gnil ?_ | refine gnilD ?_ | refine gl rfl (lvb rfl rfl) rfl (fun _ => ?_) | refine gl rfl (lvB rfl rfl rfl) rfl (fun _ => ?_) | refine gl rfl (lve rfl rfl) rfl (fun _ => ?_) | refine gl rfl (lvE rfl rfl rfl) rfl (fun _ => ?_) | refine gl rfl (lva rfl rfl rfl rfl rfl) rfl (fun _ => ?_) | refine gp rfl (by (try simp only [InR]); omega) rfl ?_ | (refine kK ?_; first | refine gcall rfl ?_ rfl (fun _ _ => ?_) (fun _ _ => ?_) | refine gcv rfl rfl ?_ rfl (fun _ _ => ?_) (fun _ _ => ?_) | refine gcc1 rfl rfl ?_ rfl (fun _ _ => ?_) (fun _ _ => ?_)) | refine geql rfl rfl (by kernel_rfl) ?_ rfl ?_ | refine gx rfl rfl (fun _ => ?_) (fun _ => ?_) | (refine kg ?_; (first | refine guardT rfl rfl rfl rfl (fun h => ?_) (fun h => ?_) | refine guardF rfl rfl rfl rfl (fun h => ?_) (fun h => ?_) | refine guardU rfl rfl rfl rfl ?_ | refine guardTH rfl rfl rfl rfl ?_ (fun h => ?_) (fun h => ?_) | refine guardFH rfl rfl rfl rfl ?_ (fun h => ?_) (fun h => ?_) | refine guardUH rfl rfl rfl rfl ?_ ?_) <;> (first | exact h.elim | (exfalso; omega) | exact absurd h (by assumption) | exact absurd (by assumption) h | skip)))
   | (refine kC ?_; first | refine gseq ?_ | refine greg ?_ | refine gret ?_ | refine gskip ?_ | refine gdraw (id := 5) [0,1,2,4,5,6,3,7,8,9,10,11,12] (by kernel_rfl) (by kernel_rfl) rfl ?_ | (refine gcond rfl (fun h => ?_) (fun h => ?_) <;> (first | exact h.elim | (exfalso; omega) | exact absurd h (by assumption) | exact absurd (by assumption) h | skip)))
   | (refine kN ?_; first | refine gthen ?_)
   | (refine kR ?_; first | refine grs ?_ | refine grc ?_)
   | (refine kR ?_; refine gr rfl (rvT rfl rv0) (_) rfl Ent.nil ?_)
   | exact Pre.mk ⟨hp.2.2.1, by simp⟩
   | exact Pre.mk ⟨hp.2.2.2, by simp⟩
   | exact Pre.mk hp.2.1.1
   | exact Pre.mk hp.2.1.2
   | (refine Pre.mk ?_; first | exact True.intro | omega | ((repeat' (first | refine And.intro ?_ ?_ | exact True.intro | assumption | omega)); done) | (simp only [and_true, true_and, or_true, true_or]; first | done | omega))
   | (refine kD ?_; first | exact dm_none | exact dm0 | refine dmOff rfl ?_ | refine dmOn (lvb rfl rfl) ?_ | refine dmOn (lvB rfl rfl rfl) ?_ | refine dmOn (lve rfl rfl) ?_ | refine dmOn (lvE rfl rfl rfl) ?_ | refine dmOn (lva rfl rfl rfl rfl rfl) ?_))
  all_goals rfl
instance c_law14_Opens {uA : Option Addr} {uc un : Nat} {u : List StG} {kA : Option Addr} {kc kn : Nat} {k : List StG} {ht : Int} {dg : List UInt8} {w0 : World} {X : Nat → Prop} {L : List Assn} [hK : KR w0 X L] [hu : Rw w0 X L (.slice uA un uc) RSt u] [q_u : StR w0 X L u] [hk : Rw w0 X L (.slice kA kn kc) RSt k] [q_k : StR w0 X L k] [hdg : LenIs dg 32] : Ctr Tryd.prog 4 [.slice uA un uc, .slice kA kn kc, Ag [.one (.int .u32 ht), .blk 32 (RB.all dg)]] w0 X L ((0 ≤ ht ∧ ht ≤ 4294967295) ∧ (StN u ∧ StN k) ∧ (∀ g ∈ u, g.push.length ≤ 1099511627776) ∧ (∀ g ∈ k, g.push.length ≤ 1099511627776)) (fun _ : Unit => .bool (true)) (fun _ : Unit => L) (fun _ : Unit => True) :=
  ctr' (M' := (fun _ : Unit => [])) (by kernel_rfl) (fun hp w hw => by have eu := hu.len hw; subst eu; have ek := hk.len hw; subst ek; exact law14_Opens _ _ _ _ _ _ _ _ w (hK.get w hw) (hu.get w hw) (q_u.get w hw) (hk.get w hw) (q_k.get w hw) hp) (by rintro hp e0 rfl ok; exact ⟨(), rfl, rfl, trivial⟩)
theorem law14_Steps (lA : Option Addr) (lc : Nat) (l : List StG) (sA : Option Addr) (sc : Nat) (s : List BsG) (ht : Int) (dg : List UInt8) [hdg : LenIs dg 32] (w0 : World) (hK : KOk w0) (hl : Slr w0 RSt (.slice lA l.length lc) l) (q_l : StP w0 l) (hs : Slr w0 RBs (.slice sA s.length sc) s) (q_s : BsP w0 s) (hp : (0 ≤ ht ∧ ht ≤ 4294967295) ∧ StN l ∧ (∀ g ∈ l, g.push.length ≤ 1099511627776) ∧ (∀ x ∈ s, x.2.length ≤ 1099511627776)) :
    Ct Tryd.prog 5 [.slice lA l.length lc, .slice sA s.length sc, Ag [.one (.int .u32 ht), .blk 32 (RB.all dg)]] w0 no (fun ((e0) : Bool) => .bool e0) (fun (e0) => []) (fun (e0) => e0 = true) := by
  have hst := St.start w0
  have j_hK := KR.old hK
  have i_l := Rw.old hl
  have j_l := StR.old q_l
  have i_s := Rw.old hs
  have j_s := BsR.old q_s
  refine genter _ hst Tryd.func5 rfl rfl rfl rfl ?_
  repeat' (first
   | (refine kO ?_; first | refine gv rfl rfl ?_ | refine gnil ?_ | refine gl rfl (lvb rfl rfl) rfl (fun _ => ?_) | refine gl rfl (lvB rfl rfl rfl) rfl (fun _ => ?_) | refine gl rfl (lve rfl rfl) rfl (fun _ => ?_) | refine gl rfl (lvE rfl rfl rfl) rfl (fun _ => ?_) | refine gl rfl (lva rfl rfl rfl rfl rfl) rfl (fun _ => ?_) | refine gp rfl (by (try simp only [InR]); omega) rfl ?_ | (refine kK ?_; first | refine gcall rfl ?_ rfl (fun _ _ => ?_) (fun _ _ => ?_) | refine gcv rfl rfl ?_ rfl (fun _ _ => ?_) (fun _ _ => ?_) | refine gcc1 rfl rfl ?_ rfl (fun _ _ => ?_) (fun _ _ => ?_)) | refine geql rfl rfl (by kernel_rfl) ?_ rfl ?_ | refine gx rfl rfl (fun _ => ?_) (fun _ => ?_) | (refine kg ?_; (first | refine guardT rfl rfl rfl rfl (fun h => ?_) (fun h => ?_) | refine guardF rfl rfl rfl rfl (fun h => ?_) (fun h => ?_) | refine guardU rfl rfl rfl rfl ?_ | refine guardTH rfl rfl rfl rfl ?_ (fun h => ?_) (fun h => ?_) | refine guardFH rfl rfl rfl rfl ?_ (fun h => ?_) (fun h => ?_) | refine guardUH rfl rfl rfl rfl ?_ ?_) <;> (first | exact h.elim | (exfalso; omega) | exact absurd h (by assumption) | exact absurd (by assumption) h | skip)))
   | (refine kC ?_; first | refine gseq ?_ | refine greg ?_ | refine gret ?_ | refine gskip ?_ | (refine gcond rfl (fun h => ?_) (fun h => ?_) <;> (first | exact h.elim | (exfalso; omega) | exact absurd h (by assumption) | exact absurd (by assumption) h | skip)))
   | (refine kN ?_; first | refine gthen ?_)
   | (refine kR ?_; first | refine grs ?_ | refine grc ?_)
   | (refine kR ?_; refine gr rfl (rvT rfl rv0) (_) rfl Ent.nil ?_)
   | exact Pre.mk ⟨hp.2.2.1, hp.2.2.2⟩
   | exact Pre.mk ⟨hp.2.1, hp.1, bs_big (by omega) hp.2.2.2⟩
   | exact Pre.mk ⟨hp.2.1, hp.1, by omega⟩
   | exact Pre.mk ⟨hp.2.1, by omega⟩
   | (refine Pre.mk ?_; first | exact True.intro | omega | ((repeat' (first | refine And.intro ?_ ?_ | exact True.intro | assumption | omega)); done) | (simp only [and_true, true_and, or_true, true_or]; first | done | omega))
   | (refine kD ?_; first | exact dm_none))
  · rfl
  · rfl
  · rw [show (soundB (opsK l) == soundB (opsK l)) = true by simp] at h; cases h
  · rename_i a ha _ b hb _ _ h9 _ _ _ _ _ _ _
    exact absurd (ha.2.1.trans hb.2.1.symm) h9
instance c_law14_Steps {lA : Option Addr} {lc ln : Nat} {l : List StG} {sA : Option Addr} {sc sn : Nat} {s : List BsG} {ht : Int} {dg : List UInt8} {w0 : World} {X : Nat → Prop} {L : List Assn} [hK : KR w0 X L] [hl : Rw w0 X L (.slice lA ln lc) RSt l] [q_l : StR w0 X L l] [hs : Rw w0 X L (.slice sA sn sc) RBs s] [q_s : BsR w0 X L s] [hdg : LenIs dg 32] : Ctr Tryd.prog 5 [.slice lA ln lc, .slice sA sn sc, Ag [.one (.int .u32 ht), .blk 32 (RB.all dg)]] w0 X L ((0 ≤ ht ∧ ht ≤ 4294967295) ∧ StN l ∧ (∀ g ∈ l, g.push.length ≤ 1099511627776) ∧ (∀ x ∈ s, x.2.length ≤ 1099511627776)) (fun _ : Unit => .bool (true)) (fun _ : Unit => L) (fun _ : Unit => True) :=
  ctr' (M' := (fun _ : Unit => [])) (by kernel_rfl) (fun hp w hw => by have el := hl.len hw; subst el; have es := hs.len hw; subst es; exact law14_Steps _ _ _ _ _ _ _ _ w (hK.get w hw) (hl.get w hw) (q_l.get w hw) (hs.get w hw) (q_s.get w hw) hp) (by rintro hp e0 rfl ok; exact ⟨(), rfl, rfl, trivial⟩)
end Go.Proofs.YtkjpemkankefnaaDoor
