/-
  moneyerref15: the small functions, to the same plain functions as place's.
-/
import Derived.Test.YtjiglibogmehfaaPf
set_option linter.all false
set_option maxRecDepth 100000
namespace Go.Proofs.Ytjiglibogmehfaa
open Go.RowKit

theorem xor_one {a : Int} (h0 : 0 ≤ a) (h1 : a ≤ 18446744073709551615) : bits BinOp.xor .u64 a 1 = if a % 2 = 0 then a + 1 else a - 1 := by
  have e : bits BinOp.xor .u64 a 1 = ((a.toNat ^^^ 1 : Nat) : Int) := by
    have := u64_xor a 1 h0 (by omega) (by omega) (by omega)
    simpa using this
  rw [e]
  have h2 : (a.toNat ^^^ 1) / 2 = a.toNat / 2 := by rw [Nat.xor_div_two]; simp
  have h3 : (a.toNat ^^^ 1) % 2 = (a.toNat + 1) % 2 := by
    have h4 := Nat.xor_mod_two_pow (a := a.toNat) (b := 1) (n := 1)
    rw [Nat.pow_one] at h4
    rw [h4]
    have h5 : a.toNat % 2 = 0 ∨ a.toNat % 2 = 1 := by omega
    rcases h5 with h5 | h5 <;> rw [h5]
    · show 1 = _; omega
    · show 0 = _; omega
  split <;> omega
theorem ref15_size (row : Int) (w0 : World)  (hp : 0 ≤ row ∧ row ≤ 63) :
    Ct Try.prog 39 [.int .u8 row] w0 no (fun ((e0) : Int) => .int .u64 e0) (fun (e0) => []) (fun (e0) => e0 = ((2 ^ row.toNat : Nat) : Int)) := by
  have hst := St.start w0
  refine genter _ hst Try.func39 rfl rfl rfl rfl ?_
  repeat' (first
   | (refine kO ?_; first | refine gv rfl rfl ?_ | refine gnil ?_ | refine gp rfl (by (try simp only [InR]); omega) rfl ?_ | refine gw rfl rfl ?_)
   | (refine kC ?_; first | refine gseq ?_ | refine greg ?_ | refine gret ?_ | refine gskip ?_ | (refine gcond rfl (fun h => ?_) (fun h => ?_) <;> (first | exact h.elim | (exfalso; omega) | exact absurd h (by assumption) | exact absurd (by assumption) h | skip)) | refine gblk ?_ | refine gexit ?_)
   | (refine kN ?_; first | refine gthen ?_ | refine gnblk ?_)
   | (refine kR ?_; first | refine grs ?_ | refine grb ?_ | refine grl ?_ | refine grc ?_)
   | (refine kX ?_; first | refine gxs ?_ | refine gxb ?_ | refine gxn rfl ?_ | refine gxl ?_ | refine gxc ?_)
   | (refine kR ?_; refine gr rfl (rvT rfl rv0) (_) rfl Ent.nil ?_)
   | (refine kD ?_; first | exact dm_none))
  refine gloop [0] (fun (i : Nat) K => (3, .int .u64 ((2 ^ i : Nat) : Int)) :: (4, .int .u8 i) :: K) (fun i => []) (fun i => (i : Int) ≤ row) (fun i => row.toNat - i) 0 rfl (by repeat (first | exact trivial | refine ⟨rfl, ?_⟩)) Ent.nil (by omega) (fun i hi => ?_)
  have hpw : 2 ^ i ≤ 2 ^ 63 := Nat.pow_le_pow_right (by omega) (by omega)
  have hlt : (i : Int) < row → 2 ^ i ≤ 2 ^ 62 := fun h => Nat.pow_le_pow_right (by omega) (by omega)
  have hpc : ((2 ^ i : Nat) : Int) ≤ 9223372036854775808 := by omega
  have hlc : row ≤ (i : Int) ∨ ((2 ^ i : Nat) : Int) ≤ 4611686018427387904 := by
    by_cases h : (i : Int) < row
    · right; have := hlt h; omega
    · exact .inl (by omega)
  have hw0 : 0 ≤ ((2 ^ i : Nat) : Int) := Int.natCast_nonneg _
  generalize hg : ((2 ^ i : Nat) : Int) = w at *
  repeat' (first
   | (refine kO ?_; first | refine gv rfl rfl ?_ | refine gnil ?_ | refine gp rfl (by (try simp only [InR]); omega) rfl ?_ | refine gw rfl rfl ?_)
   | (refine kC ?_; first | refine gseq ?_ | refine greg ?_ | refine gret ?_ | refine gskip ?_ | (refine gcond rfl (fun h => ?_) (fun h => ?_) <;> (first | exact h.elim | (exfalso; omega) | exact absurd h (by assumption) | exact absurd (by assumption) h | skip)) | refine gblk ?_ | refine gexit ?_)
   | (refine kN ?_; first | refine gthen ?_ | refine gnblk ?_)
   | (refine kR ?_; first | refine grs ?_ | refine grb ?_ | refine grl ?_ | refine grc ?_)
   | (refine kX ?_; first | refine gxs ?_ | refine gxb ?_ | refine gxn rfl ?_ | refine gxl ?_ | refine gxc ?_)
   | (refine kR ?_; refine gr rfl (rvT rfl rv0) (_) rfl Ent.nil ?_)
   | (refine kD ?_; first | exact dm_none))
  · have e : 2 * w = ((2 ^ (i + 1) : Nat) : Int) := by rw [← hg, Nat.pow_succ]; omega
    rw [e]
    exact gnl (i + 1) (by repeat (first | exact trivial | refine ⟨rfl, ?_⟩)) Ent.nil (by omega) (by omega)
  · have e : row.toNat = i := by omega
    rw [e]; exact hg.symm
instance c_ref15_size {row : Int} {w0 : World} {X : Nat → Prop} {L : List Assn}  : Ctr Try.prog 39 [.int .u8 row] w0 X L (0 ≤ row ∧ row ≤ 63) (fun _ : Unit => .int .u64 (((2 ^ row.toNat : Nat) : Int))) (fun _ : Unit => L) (fun _ : Unit => True) :=
  ctr' (M' := (fun _ : Unit => [])) (by kernel_rfl) (fun hp w hw => by exact ref15_size _ w hp) (by rintro hp e0 rfl ok; exact ⟨(), rfl, rfl, trivial⟩)
theorem ref15_Parent (r : Int) (a : Int) (w0 : World)  (hp : 0 ≤ r ∧ r ≤ 255 ∧ 0 ≤ a ∧ a ≤ 18446744073709551615) :
    Ct Try.prog 23 [Ag [.one (.int .u8 r), .one (.int .u64 a)]] w0 no (fun ((e0, e1) : Int × Int) => Ag [.one (.int .u8 e0), .one (.int .u64 e1)]) (fun (e0, e1) => []) (fun (e0, e1) => e0 = (parentG ⟨r, a⟩).row ∧ e1 = (parentG ⟨r, a⟩).at_) := by
  have hst := St.start w0
  refine genter _ hst Try.func23 rfl rfl rfl rfl ?_
  repeat' (first
   | (refine kO ?_; first | refine gv rfl rfl ?_ | refine gnil ?_ | refine gl rfl (lvb rfl rfl) rfl (fun _ => ?_) | refine gl rfl (lvB rfl rfl rfl) rfl (fun _ => ?_) | refine gl rfl (lve rfl rfl) rfl (fun _ => ?_) | refine gl rfl (lvE rfl rfl rfl) rfl (fun _ => ?_) | refine gl rfl (lva rfl rfl rfl rfl rfl) rfl (fun _ => ?_) | refine gp rfl (by (try simp only [InR]); omega) rfl ?_ | refine gf rfl rfl rfl ?_ | refine gbu rfl rfl rfl rfl rfl ?_ | refine gx rfl rfl (fun _ => ?_) (fun _ => ?_) | refine ga rfl (fun _ => ?_) (fun _ => ?_) | refine gst rfl rfl rfl rfl ?_ ?_ | refine ge rfl rfl rfl rfl ?_ ?_ | refine gea rfl rfl rfl rfl rfl rfl rfl ?_ ?_ | refine gw rfl rfl ?_)
   | (refine kC ?_; first | refine gseq ?_ | refine greg ?_ | refine gret ?_ | refine gskip ?_)
   | (refine kN ?_; first | refine gthen ?_)
   | (refine kR ?_; first | refine grs ?_ | refine grc ?_)
   | (refine kR ?_; refine gr rfl (rvC rfl (lvb rfl rfl) rv0) (_, _) rfl Ent.nil ?_)
   | (refine kR ?_; refine gr rfl (rvC rfl (lvB rfl rfl rfl) rv0) (_, _) rfl Ent.nil ?_)
   | (refine kD ?_; first | exact dm_none))
  all_goals exact ⟨rfl, rfl⟩
instance c_ref15_Parent {r : Int} {a : Int} {w0 : World} {X : Nat → Prop} {L : List Assn}  : Ctr Try.prog 23 [Ag [.one (.int .u8 r), .one (.int .u64 a)]] w0 X L (0 ≤ r ∧ r ≤ 255 ∧ 0 ≤ a ∧ a ≤ 18446744073709551615) (fun _ : Unit => Ag [.one (.int .u8 ((parentG ⟨r, a⟩).row)), .one (.int .u64 ((parentG ⟨r, a⟩).at_))]) (fun _ : Unit => L) (fun _ : Unit => True) :=
  ctr' (M' := (fun _ : Unit => [])) (by kernel_rfl) (fun hp w hw => by exact ref15_Parent _ _ w hp) (by rintro hp ⟨e0, e1⟩ ⟨rfl, rfl⟩ ok; exact ⟨(), rfl, rfl, trivial⟩)
theorem ref15_Neighbour (r : Int) (a : Int) (w0 : World)  (hp : 0 ≤ r ∧ r ≤ 255 ∧ 0 ≤ a ∧ a ≤ 18446744073709551615) :
    Ct Try.prog 25 [Ag [.one (.int .u8 r), .one (.int .u64 a)]] w0 no (fun ((e0, e1) : Int × Int) => Ag [.one (.int .u8 e0), .one (.int .u64 e1)]) (fun (e0, e1) => []) (fun (e0, e1) => e0 = (neighG ⟨r, a⟩).row ∧ e1 = (neighG ⟨r, a⟩).at_) := by
  have hst := St.start w0
  refine genter _ hst Try.func25 rfl rfl rfl rfl ?_
  have hx := xor_one hp.2.2.1 hp.2.2.2
  repeat' (first
   | (refine kO ?_; first | refine gv rfl rfl ?_ | refine gnil ?_ | refine gl rfl (lvb rfl rfl) rfl (fun _ => ?_) | refine gl rfl (lvB rfl rfl rfl) rfl (fun _ => ?_) | refine gl rfl (lve rfl rfl) rfl (fun _ => ?_) | refine gl rfl (lvE rfl rfl rfl) rfl (fun _ => ?_) | refine gl rfl (lva rfl rfl rfl rfl rfl) rfl (fun _ => ?_) | refine gp rfl (by (try simp only [InR]); omega) rfl ?_ | refine gf rfl rfl rfl ?_ | refine geql rfl rfl (by kernel_rfl) ?_ rfl ?_ | refine gbu rfl rfl rfl rfl rfl ?_ | refine gx rfl rfl (fun _ => ?_) (fun _ => ?_) | refine ga rfl (fun _ => ?_) (fun _ => ?_) | refine gst rfl rfl rfl rfl ?_ ?_ | refine ge rfl rfl rfl rfl ?_ ?_ | refine gea rfl rfl rfl rfl rfl rfl rfl ?_ ?_ | refine gw rfl rfl ?_)
   | (refine kC ?_; first | refine gseq ?_ | refine greg ?_ | refine gret ?_ | refine gskip ?_ | (refine gcond rfl (fun h => ?_) (fun h => ?_) <;> (first | exact h.elim | (exfalso; omega) | exact absurd h (by assumption) | exact absurd (by assumption) h | skip)))
   | (refine kN ?_; first | refine gthen ?_)
   | (refine kR ?_; first | refine grs ?_ | refine grc ?_)
   | (refine kR ?_; refine gr rfl (rvC rfl (lvb rfl rfl) rv0) (_, _) rfl Ent.nil ?_)
   | (refine kR ?_; refine gr rfl (rvC rfl (lvB rfl rfl rfl) rv0) (_, _) rfl Ent.nil ?_)
   | (refine Pre.mk ?_; first | exact True.intro | omega | ((repeat' (first | refine And.intro ?_ ?_ | exact True.intro | assumption | omega)); done) | (simp only [and_true, true_and, or_true, true_or]; first | done | omega))
   | (refine kD ?_; first | exact dm_none))
  all_goals (refine ⟨rfl, ?_⟩; show _ = bits BinOp.xor .u64 a 1; rw [hx]; grind)
instance c_ref15_Neighbour {r : Int} {a : Int} {w0 : World} {X : Nat → Prop} {L : List Assn}  : Ctr Try.prog 25 [Ag [.one (.int .u8 r), .one (.int .u64 a)]] w0 X L (0 ≤ r ∧ r ≤ 255 ∧ 0 ≤ a ∧ a ≤ 18446744073709551615) (fun _ : Unit => Ag [.one (.int .u8 ((neighG ⟨r, a⟩).row)), .one (.int .u64 ((neighG ⟨r, a⟩).at_))]) (fun _ : Unit => L) (fun _ : Unit => True) :=
  ctr' (M' := (fun _ : Unit => [])) (by kernel_rfl) (fun hp w hw => by exact ref15_Neighbour _ _ w hp) (by rintro hp ⟨e0, e1⟩ ⟨rfl, rfl⟩ ok; exact ⟨(), rfl, rfl, trivial⟩)
theorem ref15_Kids (r : Int) (a : Int) (w0 : World)  (hp : 0 ≤ r ∧ r ≤ 255 ∧ 0 ≤ a ∧ a ≤ 18446744073709551615) :
    Ct Try.prog 21 [Ag [.one (.int .u8 r), .one (.int .u64 a)]] w0 no (fun ((e0, e1, e2, e3) : Int × Int × Int × Int) => .tuple #[Ag [.one (.int .u8 e0), .one (.int .u64 e1)], Ag [.one (.int .u8 e2), .one (.int .u64 e3)]]) (fun (e0, e1, e2, e3) => []) (fun (e0, e1, e2, e3) => e0 = (kidL ⟨r, a⟩).row ∧ e1 = (kidL ⟨r, a⟩).at_ ∧ e2 = (kidR ⟨r, a⟩).row ∧ e3 = (kidR ⟨r, a⟩).at_) := by
  have hst := St.start w0
  refine genter _ hst Try.func21 rfl rfl rfl rfl ?_
  have e2 : (2 : Int) * a = a + a := by omega
  repeat' (first
   | (refine kO ?_; first | refine gv rfl rfl ?_ | refine gnil ?_ | refine gnilD ?_ | refine gl rfl (lvb rfl rfl) rfl (fun _ => ?_) | refine gl rfl (lvB rfl rfl rfl) rfl (fun _ => ?_) | refine gl rfl (lve rfl rfl) rfl (fun _ => ?_) | refine gl rfl (lvE rfl rfl rfl) rfl (fun _ => ?_) | refine gl rfl (lva rfl rfl rfl rfl rfl) rfl (fun _ => ?_) | refine gp rfl (by (try simp only [InR]); omega) rfl ?_ | refine gf rfl rfl rfl ?_ | refine geql rfl rfl (by kernel_rfl) ?_ rfl ?_ | refine gbu rfl rfl rfl rfl rfl ?_ | refine gx rfl rfl (fun _ => ?_) (fun _ => ?_) | refine ga rfl (fun _ => ?_) (fun _ => ?_) | refine gst rfl rfl rfl rfl ?_ ?_ | refine ge rfl rfl rfl rfl ?_ ?_ | refine gea rfl rfl rfl rfl rfl rfl rfl ?_ ?_ | refine gw rfl rfl ?_)
   | (refine kC ?_; first | refine gseq ?_ | refine greg ?_ | refine gret ?_ | refine gskip ?_ | refine gdraw (id := 3) [0,1,2,3,4,5,6,7,8,9,10,11,12,13,14,15,16,17,18,19,20] (by kernel_rfl) (by kernel_rfl) rfl ?_ | (refine gcond rfl (fun h => ?_) (fun h => ?_) <;> (first | exact h.elim | (exfalso; omega) | exact absurd h (by assumption) | exact absurd (by assumption) h | skip)))
   | (refine kN ?_; first | refine gthen ?_)
   | (refine kR ?_; first | refine grs ?_ | refine grc ?_)
   | (refine kR ?_; refine gr rfl (rvC rfl (lvb rfl rfl) (rvC rfl (lvb rfl rfl) rv0)) (_, _, _, _) rfl Ent.nil ?_)
   | (refine kR ?_; refine gr rfl (rvC rfl (lvB rfl rfl rfl) (rvC rfl (lvb rfl rfl) rv0)) (_, _, _, _) rfl Ent.nil ?_)
   | (refine kR ?_; refine gr rfl (rvC rfl (lvb rfl rfl) (rvC rfl (lvB rfl rfl rfl) rv0)) (_, _, _, _) rfl Ent.nil ?_)
   | (refine kR ?_; refine gr rfl (rvC rfl (lvB rfl rfl rfl) (rvC rfl (lvB rfl rfl rfl) rv0)) (_, _, _, _) rfl Ent.nil ?_)
   | (refine Pre.mk ?_; first | exact True.intro | omega | ((repeat' (first | refine And.intro ?_ ?_ | exact True.intro | assumption | omega)); done) | (simp only [and_true, true_and, or_true, true_or]; first | done | omega))
   | (refine kD ?_; first | exact dm_none | exact dm0 | refine dmOff rfl ?_ | refine dmOn (lvb rfl rfl) ?_ | refine dmOn (lvB rfl rfl rfl) ?_ | refine dmOn (lve rfl rfl) ?_ | refine dmOn (lvE rfl rfl rfl) ?_ | refine dmOn (lva rfl rfl rfl rfl rfl) ?_))
  all_goals simp [kidL, kidR, h, e2]
instance c_ref15_Kids {r : Int} {a : Int} {w0 : World} {X : Nat → Prop} {L : List Assn}  : Ctr Try.prog 21 [Ag [.one (.int .u8 r), .one (.int .u64 a)]] w0 X L (0 ≤ r ∧ r ≤ 255 ∧ 0 ≤ a ∧ a ≤ 18446744073709551615) (fun _ : Unit => .tuple #[Ag [.one (.int .u8 ((kidL ⟨r, a⟩).row)), .one (.int .u64 ((kidL ⟨r, a⟩).at_))], Ag [.one (.int .u8 ((kidR ⟨r, a⟩).row)), .one (.int .u64 ((kidR ⟨r, a⟩).at_))]]) (fun _ : Unit => L) (fun _ : Unit => True) :=
  ctr' (M' := (fun _ : Unit => [])) (by kernel_rfl) (fun hp w hw => by exact ref15_Kids _ _ w hp) (by rintro hp ⟨e0, e1, e2, e3⟩ ⟨rfl, rfl, rfl, rfl⟩ ok; exact ⟨(), rfl, rfl, trivial⟩)
theorem ref15_Less (r : Int) (a : Int) (r2 : Int) (a2 : Int) (w0 : World)   :
    Ct Try.prog 27 [Ag [.one (.int .u8 r), .one (.int .u64 a)], Ag [.one (.int .u8 r2), .one (.int .u64 a2)]] w0 no (fun ((e0) : Bool) => .bool e0) (fun (e0) => []) (fun (e0) => e0 = decide (cmpP ⟨r, a⟩ ⟨r2, a2⟩ < 0)) := by
  have hst := St.start w0
  refine genter _ hst Try.func27 rfl rfl rfl rfl ?_
  have hc := cmpP_neg ⟨r, a⟩ ⟨r2, a2⟩
  simp only at hc
  repeat' (first
   | (refine kO ?_; first | refine gv rfl rfl ?_ | refine gnil ?_ | refine gl rfl (lvb rfl rfl) rfl (fun _ => ?_) | refine gl rfl (lvB rfl rfl rfl) rfl (fun _ => ?_) | refine gl rfl (lve rfl rfl) rfl (fun _ => ?_) | refine gl rfl (lvE rfl rfl rfl) rfl (fun _ => ?_) | refine gl rfl (lva rfl rfl rfl rfl rfl) rfl (fun _ => ?_) | refine gp rfl (by (try simp only [InR]); omega) rfl ?_ | refine gf rfl rfl rfl ?_ | refine gneq rfl rfl (by kernel_rfl) ?_ rfl ?_ | refine gx rfl rfl (fun _ => ?_) (fun _ => ?_))
   | (refine kC ?_; first | refine gseq ?_ | refine greg ?_ | refine gret ?_ | refine gskip ?_ | (refine gcond rfl (fun h => ?_) (fun h => ?_) <;> (first | exact h.elim | (exfalso; omega) | exact absurd h (by assumption) | exact absurd (by assumption) h | skip)))
   | (refine kN ?_; first | refine gthen ?_)
   | (refine kR ?_; first | refine grs ?_ | refine grc ?_)
   | (refine kR ?_; refine gr rfl (rvT rfl rv0) (_) rfl Ent.nil ?_)
   | (refine Pre.mk ?_; first | exact True.intro | omega | ((repeat' (first | refine And.intro ?_ ?_ | exact True.intro | assumption | omega)); done) | (simp only [and_true, true_and, or_true, true_or]; first | done | omega))
   | (refine kD ?_; first | exact dm_none))
  all_goals grind
instance c_ref15_Less {r : Int} {a : Int} {r2 : Int} {a2 : Int} {w0 : World} {X : Nat → Prop} {L : List Assn}  : Ctr Try.prog 27 [Ag [.one (.int .u8 r), .one (.int .u64 a)], Ag [.one (.int .u8 r2), .one (.int .u64 a2)]] w0 X L (True) (fun _ : Unit => .bool (decide (cmpP ⟨r, a⟩ ⟨r2, a2⟩ < 0))) (fun _ : Unit => L) (fun _ : Unit => True) :=
  ctr' (M' := (fun _ : Unit => [])) (by kernel_rfl) (fun hp w hw => by exact ref15_Less _ _ _ _ w) (by rintro hp e0 rfl ok; exact ⟨(), rfl, rfl, trivial⟩)
theorem ref15_Has (lA : Option Addr) (lc : Nat) (l : List PlG) (r : Int) (a : Int) (w0 : World) (hl : Slr w0 RPl (.slice lA l.length lc) l) (hp : Pls l ∧ (0 ≤ r ∧ r ≤ 255 ∧ 0 ≤ a ∧ a ≤ 18446744073709551615)) :
    Ct Try.prog 28 [.slice lA l.length lc, Ag [.one (.int .u8 r), .one (.int .u64 a)]] w0 no (fun ((e0) : Bool) => .bool e0) (fun (e0) => []) (fun (e0) => e0 = decide ((⟨r, a⟩ : PlG) ∈ l)) := by
  have hst := St.start w0
  have i_l := Rw.old hl
  refine genter _ hst Try.func28 rfl rfl rfl rfl ?_
  have hcap := hl.cap
  repeat' (first
   | (refine kO ?_; first | refine gv rfl rfl ?_ | refine gnil ?_ | refine gnilD ?_ | refine gl rfl (lvb rfl rfl) rfl (fun _ => ?_) | refine gl rfl (lvB rfl rfl rfl) rfl (fun _ => ?_) | refine gl rfl (lve rfl rfl) rfl (fun _ => ?_) | refine gl rfl (lvE rfl rfl rfl) rfl (fun _ => ?_) | refine gl rfl (lva rfl rfl rfl rfl rfl) rfl (fun _ => ?_) | refine gp rfl (by (try simp only [InR]); omega) rfl ?_ | refine gix rfl rfl rfl rfl (by omega) rfl (fun _ => ?_) | refine gixa rfl rfl rfl rfl (by omega) rfl (fun _ => ?_) | (refine kK ?_; first | refine gcall rfl ?_ rfl (fun _ _ => ?_) (fun _ _ => ?_) | refine gcv rfl rfl ?_ rfl (fun _ _ => ?_) (fun _ _ => ?_) | refine gcc1 rfl rfl ?_ rfl (fun _ _ => ?_) (fun _ _ => ?_)) | refine geql rfl rfl (by kernel_rfl) ?_ rfl ?_ | refine gx rfl rfl (fun _ => ?_) (fun _ => ?_) | refine gw rfl rfl ?_)
   | (refine kC ?_; first | refine gseq ?_ | refine greg ?_ | refine gret ?_ | refine gskip ?_ | refine gdraw (id := 4) [0,1,2,3,4,5] (by kernel_rfl) (by kernel_rfl) rfl ?_ | (refine gcond rfl (fun h => ?_) (fun h => ?_) <;> (first | exact h.elim | (exfalso; omega) | exact absurd h (by assumption) | exact absurd (by assumption) h | skip)) | refine gblk ?_ | refine gexit ?_)
   | (refine kN ?_; first | refine gthen ?_ | refine gnblk ?_)
   | (refine kR ?_; first | refine grs ?_ | refine grb ?_ | refine grl ?_ | refine grc ?_)
   | (refine kX ?_; first | refine gxs ?_ | refine gxb ?_ | refine gxn rfl ?_ | refine gxl ?_ | refine gxc ?_)
   | (refine kR ?_; refine gr rfl (rvT rfl rv0) (_) rfl Ent.nil ?_)
   | (refine Pre.mk ?_; first | exact True.intro | omega | ((repeat' (first | refine And.intro ?_ ?_ | exact True.intro | assumption | omega)); done) | (simp only [and_true, true_and, or_true, true_or]; first | done | omega))
   | (refine kD ?_; first | exact dm_none | exact dm0 | refine dmOff rfl ?_ | refine dmOn (lvb rfl rfl) ?_ | refine dmOn (lvB rfl rfl rfl) ?_ | refine dmOn (lve rfl rfl) ?_ | refine dmOn (lvE rfl rfl rfl) ?_ | refine dmOn (lva rfl rfl rfl rfl rfl) ?_))
  refine gloopc [0, 3] (fun (i : Nat) K => (5, .int .i64 i) :: K) (fun i => i ≤ l.length ∧ ((⟨r, a⟩ : PlG) ∈ l ↔ (⟨r, a⟩ : PlG) ∈ l.drop i)) (fun i => l.length - i) 0 rfl (by repeat (first | exact trivial | refine ⟨rfl, ?_⟩)) (by simp) (fun i hi => ?_)
  have hb := fun h => hp.1.at (i := (i : Int)) ⟨by omega, h⟩
  repeat' (first
   | (refine kO ?_; first | refine gv rfl rfl ?_ | refine gnil ?_ | refine gnilD ?_ | refine gl rfl (lvb rfl rfl) rfl (fun _ => ?_) | refine gl rfl (lvB rfl rfl rfl) rfl (fun _ => ?_) | refine gl rfl (lve rfl rfl) rfl (fun _ => ?_) | refine gl rfl (lvE rfl rfl rfl) rfl (fun _ => ?_) | refine gl rfl (lva rfl rfl rfl rfl rfl) rfl (fun _ => ?_) | refine gp rfl (by (try simp only [InR]); omega) rfl ?_ | refine gix rfl rfl rfl rfl (by omega) rfl (fun _ => ?_) | refine gixa rfl rfl rfl rfl (by omega) rfl (fun _ => ?_) | (refine kK ?_; first | refine gcall rfl ?_ rfl (fun _ _ => ?_) (fun _ _ => ?_) | refine gcv rfl rfl ?_ rfl (fun _ _ => ?_) (fun _ _ => ?_) | refine gcc1 rfl rfl ?_ rfl (fun _ _ => ?_) (fun _ _ => ?_)) | refine geql rfl rfl (by kernel_rfl) ?_ rfl ?_ | refine gx rfl rfl (fun _ => ?_) (fun _ => ?_) | refine gw rfl rfl ?_)
   | (refine kC ?_; first | refine gseq ?_ | refine greg ?_ | refine gret ?_ | refine gskip ?_ | refine gdraw (id := 4) [0,1,2,3,4,5] (by kernel_rfl) (by kernel_rfl) rfl ?_ | (refine gcond rfl (fun h => ?_) (fun h => ?_) <;> (first | exact h.elim | (exfalso; omega) | exact absurd h (by assumption) | exact absurd (by assumption) h | skip)) | refine gblk ?_ | refine gexit ?_)
   | (refine kN ?_; first | refine gthen ?_ | refine gnblk ?_)
   | (refine kR ?_; first | refine grs ?_ | refine grb ?_ | refine grl ?_ | refine grc ?_)
   | (refine kX ?_; first | refine gxs ?_ | refine gxb ?_ | refine gxn rfl ?_ | refine gxl ?_ | refine gxc ?_)
   | (refine kR ?_; refine gr rfl (rvT rfl rv0) (_) rfl Ent.nil ?_)
   | exact Pre.mk ⟨hb (by assumption), hp.2⟩
   | (refine Pre.mk ?_; first | exact True.intro | omega | ((repeat' (first | refine And.intro ?_ ?_ | exact True.intro | assumption | omega)); done) | (simp only [and_true, true_and, or_true, true_or]; first | done | omega))
   | (refine kD ?_; first | exact dm_none | exact dm0 | refine dmOff rfl ?_ | refine dmOn (lvb rfl rfl) ?_ | refine dmOn (lvB rfl rfl rfl) ?_ | refine dmOn (lve rfl rfl) ?_ | refine dmOn (lvE rfl rfl rfl) ?_ | refine dmOn (lva rfl rfl rfl rfl rfl) ?_))
  · have e : (⟨r, a⟩ : PlG) = ixd l (i : Int) := by rw [← h.1, ← h.2.1]
    exact (decide_eq_true (hi.2.2 (by rw [drop_ixd (by omega), e]; exact List.mem_cons_self ..))).symm
  · have e : ¬ (⟨r, a⟩ : PlG) = ixd l (i : Int) := fun e => h (by rw [← e]; exact ⟨rfl, rfl, trivial⟩)
    refine gnl (i + 1) (by repeat (first | exact trivial | refine ⟨rfl, ?_⟩)) (Ent.refl _) ⟨by omega, hi.2.trans ?_⟩ (by omega)
    rw [drop_ixd (by omega), List.mem_cons]; simp [e]
  · have e : ¬ (⟨r, a⟩ : PlG) ∈ l := fun hm => by
      have := hi.2.1 hm
      rw [List.drop_eq_nil_of_le (by omega)] at this; cases this
    exact (decide_eq_false e).symm
instance c_ref15_Has {lA : Option Addr} {lc ln : Nat} {l : List PlG} {r : Int} {a : Int} {w0 : World} {X : Nat → Prop} {L : List Assn} [hl : Rw w0 X L (.slice lA ln lc) RPl l] : Ctr Try.prog 28 [.slice lA ln lc, Ag [.one (.int .u8 r), .one (.int .u64 a)]] w0 X L (Pls l ∧ (0 ≤ r ∧ r ≤ 255 ∧ 0 ≤ a ∧ a ≤ 18446744073709551615)) (fun _ : Unit => .bool (decide ((⟨r, a⟩ : PlG) ∈ l))) (fun _ : Unit => L) (fun _ : Unit => True) :=
  ctr' (M' := (fun _ : Unit => [])) (by kernel_rfl) (fun hp w hw => by have el := hl.len hw; subst el; exact ref15_Has _ _ _ _ _ w (hl.get w hw) hp) (by rintro hp e0 rfl ok; exact ⟨(), rfl, rfl, trivial⟩)
theorem ref15_inside (r : Int) (a : Int) (r2 : Int) (a2 : Int) (w0 : World)  (hp : (0 ≤ r ∧ r ≤ 63) ∧ (0 ≤ r2 ∧ r2 ≤ 255 ∧ 0 ≤ a2 ∧ a2 ≤ 18446744073709551615)) :
    Ct Try.prog 37 [Ag [.one (.int .u8 r), .one (.int .u64 a)], Ag [.one (.int .u8 r2), .one (.int .u64 a2)]] w0 no (fun ((e0) : Bool) => .bool e0) (fun (e0) => []) (fun (e0) => e0 = decide (r2 ≤ r ∧ a2 / ((2 ^ (r - r2).toNat : Nat) : Int) = a)) := by
  have hst := St.start w0
  refine genter _ hst Try.func37 rfl rfl rfl rfl ?_
  have hpos : 0 < ((2 ^ (r - r2).toNat : Nat) : Int) := by have := Nat.two_pow_pos (r - r2).toNat; omega
  repeat' (first
   | (refine kO ?_; first | refine gv rfl rfl ?_ | refine gnil ?_ | refine gnilD ?_ | refine gl rfl (lvb rfl rfl) rfl (fun _ => ?_) | refine gl rfl (lvB rfl rfl rfl) rfl (fun _ => ?_) | refine gl rfl (lve rfl rfl) rfl (fun _ => ?_) | refine gl rfl (lvE rfl rfl rfl) rfl (fun _ => ?_) | refine gl rfl (lva rfl rfl rfl rfl rfl) rfl (fun _ => ?_) | refine gp rfl (by (try simp only [InR]); omega) rfl ?_ | refine gf rfl rfl rfl ?_ | (refine kK ?_; first | refine gcall rfl ?_ rfl (fun _ _ => ?_) (fun _ _ => ?_) | refine gcv rfl rfl ?_ rfl (fun _ _ => ?_) (fun _ _ => ?_) | refine gcc1 rfl rfl ?_ rfl (fun _ _ => ?_) (fun _ _ => ?_)) | refine geql rfl rfl (by kernel_rfl) ?_ rfl ?_ | refine gx rfl rfl (fun _ => ?_) (fun _ => ?_) | refine gw rfl rfl ?_ | (refine kg ?_; (first | refine guardT rfl rfl rfl rfl (fun h => ?_) (fun h => ?_) | refine guardF rfl rfl rfl rfl (fun h => ?_) (fun h => ?_) | refine guardU rfl rfl rfl rfl ?_ | refine guardTH rfl rfl rfl rfl ?_ (fun h => ?_) (fun h => ?_) | refine guardFH rfl rfl rfl rfl ?_ (fun h => ?_) (fun h => ?_) | refine guardUH rfl rfl rfl rfl ?_ ?_) <;> (first | exact h.elim | (exfalso; omega) | exact absurd h (by assumption) | exact absurd (by assumption) h | skip)))
   | (refine kC ?_; first | refine gseq ?_ | refine greg ?_ | refine gret ?_ | refine gskip ?_ | refine gdraw (id := 1) [0,1,2,3,4,5,6,7,8,9,10,11,12,15,16,13,14,17,18,19] (by kernel_rfl) (by kernel_rfl) rfl ?_)
   | (refine kN ?_; first | refine gthen ?_)
   | (refine kR ?_; first | refine grs ?_ | refine grc ?_)
   | (refine kR ?_; refine gr rfl (rvT rfl rv0) (_) rfl Ent.nil ?_)
   | (refine Pre.mk ?_; first | exact True.intro | omega | ((repeat' (first | refine And.intro ?_ ?_ | exact True.intro | assumption | omega)); done) | (simp only [and_true, true_and, or_true, true_or]; first | done | omega))
   | (refine kD ?_; first | exact dm_none | exact dm0 | refine dmOff rfl ?_ | refine dmOn (lvb rfl rfl) ?_ | refine dmOn (lvB rfl rfl rfl) ?_ | refine dmOn (lve rfl rfl) ?_ | refine dmOn (lvE rfl rfl rfl) ?_ | refine dmOn (lva rfl rfl rfl rfl rfl) ?_))
  · have h0 : r2 ≤ r := by assumption
    simp [h0]
  · have h0 : ¬ r2 ≤ r := by assumption
    simp [h0]
instance c_ref15_inside {r : Int} {a : Int} {r2 : Int} {a2 : Int} {w0 : World} {X : Nat → Prop} {L : List Assn}  : Ctr Try.prog 37 [Ag [.one (.int .u8 r), .one (.int .u64 a)], Ag [.one (.int .u8 r2), .one (.int .u64 a2)]] w0 X L ((0 ≤ r ∧ r ≤ 63) ∧ (0 ≤ r2 ∧ r2 ≤ 255 ∧ 0 ≤ a2 ∧ a2 ≤ 18446744073709551615)) (fun _ : Unit => .bool (decide (r2 ≤ r ∧ a2 / ((2 ^ (r - r2).toNat : Nat) : Int) = a))) (fun _ : Unit => L) (fun _ : Unit => True) :=
  ctr' (M' := (fun _ : Unit => [])) (by kernel_rfl) (fun hp w hw => by exact ref15_inside _ _ _ _ w hp) (by rintro hp e0 rfl ok; exact ⟨(), rfl, rfl, trivial⟩)
end Go.Proofs.Ytjiglibogmehfaa
