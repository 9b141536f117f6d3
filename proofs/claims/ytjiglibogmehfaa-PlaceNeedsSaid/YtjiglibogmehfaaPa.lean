/-
  Places: small functions.
-/
import Derived.Test.YtjiglibogmehfaaPt
set_option linter.all false
set_option maxRecDepth 100000
namespace Go.Proofs.Ytjiglibogmehfaa
open Go.RowKit

def cmpI (a b : Int) : Int := if a < b then -1 else if b < a then 1 else 0
def cmpP (p q : PlG) : Int := if cmpI p.row q.row ≠ 0 then cmpI p.row q.row else cmpI p.at_ q.at_
theorem cmpI_b (a b : Int) : -1 ≤ cmpI a b ∧ cmpI a b ≤ 1 := by unfold cmpI; grind
def orL : List Int → Int
  | [] => 0
  | a :: r => if a ≠ 0 then a else orL r
theorem pl_nan8 (a : Int) (w0 : World)   :
    Ct Try.prog 48 [.int .u8 a] w0 no (fun ((e0) : Bool) => .bool e0) (fun (e0) => []) (fun (e0) => e0 = false) := by
  have hst := St.start w0
  refine genter _ hst Try.func48 rfl rfl rfl rfl ?_
  repeat' (first
   | (refine kO ?_; first | refine gv rfl rfl ?_ | refine gnil ?_ | refine gp rfl (by (try simp only [InR]); omega) rfl ?_ | refine gneq rfl rfl (by kernel_rfl) ?_ rfl ?_)
   | (refine kC ?_; first | refine gseq ?_ | refine greg ?_ | refine gret ?_ | refine gskip ?_)
   | (refine kN ?_; first | refine gthen ?_)
   | (refine kR ?_; first | refine grs ?_ | refine grc ?_)
   | (refine kR ?_; refine gr rfl (rvT rfl rv0) (_) rfl Ent.nil ?_)
   | (refine Pre.mk ?_; first | exact True.intro | omega | ((repeat' (first | refine And.intro ?_ ?_ | exact True.intro | assumption | omega)); done) | (simp only [and_true, true_and, or_true, true_or]; first | done | omega))
   | (refine kD ?_; first | exact dm_none))
  all_goals simp
instance c_pl_nan8 {a : Int} {w0 : World} {X : Nat → Prop} {L : List Assn}  : Ctr Try.prog 48 [.int .u8 a] w0 X L (True) (fun _ : Unit => .bool (false)) (fun _ : Unit => L) (fun _ : Unit => True) :=
  ctr' (M' := (fun _ : Unit => [])) (by kernel_rfl) (fun hp w hw => by exact pl_nan8 _ w) (by rintro hp e0 rfl ok; exact ⟨(), rfl, rfl, trivial⟩)
theorem pl_nan64 (a : Int) (w0 : World)   :
    Ct Try.prog 49 [.int .u64 a] w0 no (fun ((e0) : Bool) => .bool e0) (fun (e0) => []) (fun (e0) => e0 = false) := by
  have hst := St.start w0
  refine genter _ hst Try.func49 rfl rfl rfl rfl ?_
  repeat' (first
   | (refine kO ?_; first | refine gv rfl rfl ?_ | refine gnil ?_ | refine gp rfl (by (try simp only [InR]); omega) rfl ?_ | refine gneq rfl rfl (by kernel_rfl) ?_ rfl ?_)
   | (refine kC ?_; first | refine gseq ?_ | refine greg ?_ | refine gret ?_ | refine gskip ?_)
   | (refine kN ?_; first | refine gthen ?_)
   | (refine kR ?_; first | refine grs ?_ | refine grc ?_)
   | (refine kR ?_; refine gr rfl (rvT rfl rv0) (_) rfl Ent.nil ?_)
   | (refine Pre.mk ?_; first | exact True.intro | omega | ((repeat' (first | refine And.intro ?_ ?_ | exact True.intro | assumption | omega)); done) | (simp only [and_true, true_and, or_true, true_or]; first | done | omega))
   | (refine kD ?_; first | exact dm_none))
  all_goals simp
instance c_pl_nan64 {a : Int} {w0 : World} {X : Nat → Prop} {L : List Assn}  : Ctr Try.prog 49 [.int .u64 a] w0 X L (True) (fun _ : Unit => .bool (false)) (fun _ : Unit => L) (fun _ : Unit => True) :=
  ctr' (M' := (fun _ : Unit => [])) (by kernel_rfl) (fun hp w hw => by exact pl_nan64 _ w) (by rintro hp e0 rfl ok; exact ⟨(), rfl, rfl, trivial⟩)
theorem pl_cmp8 (a : Int) (b : Int) (w0 : World)   :
    Ct Try.prog 44 [.int .u8 a, .int .u8 b] w0 no (fun ((e0) : Int) => .int .i64 e0) (fun (e0) => []) (fun (e0) => e0 = cmpI a b) := by
  have hst := St.start w0
  refine genter _ hst Try.func44 rfl rfl rfl rfl ?_
  repeat' (first
   | (refine kO ?_; first | refine gv rfl rfl ?_ | refine gnil ?_ | refine gp rfl (by (try simp only [InR]); omega) rfl ?_ | (refine kK ?_; first | refine gcall rfl ?_ rfl (fun _ _ => ?_) (fun _ _ => ?_) | refine gcv rfl rfl ?_ rfl (fun _ _ => ?_) (fun _ _ => ?_) | refine gcc1 rfl rfl ?_ rfl (fun _ _ => ?_) (fun _ _ => ?_)))
   | (refine kC ?_; first | refine gseq ?_ | refine greg ?_ | refine gret ?_ | refine gskip ?_ | (refine gcond rfl (fun h => ?_) (fun h => ?_) <;> (first | exact h.elim | (exfalso; omega) | exact absurd h (by assumption) | exact absurd (by assumption) h | skip)))
   | (refine kN ?_; first | refine gthen ?_)
   | (refine kR ?_; first | refine grs ?_ | refine grc ?_)
   | (refine kR ?_; refine gr rfl (rvT rfl rv0) (_) rfl Ent.nil ?_)
   | (refine Pre.mk ?_; first | exact True.intro | omega | ((repeat' (first | refine And.intro ?_ ?_ | exact True.intro | assumption | omega)); done) | (simp only [and_true, true_and, or_true, true_or]; first | done | omega))
   | (refine kD ?_; first | exact dm_none))
  all_goals (unfold cmpI; grind)
instance c_pl_cmp8 {a : Int} {b : Int} {w0 : World} {X : Nat → Prop} {L : List Assn}  : Ctr Try.prog 44 [.int .u8 a, .int .u8 b] w0 X L (True) (fun _ : Unit => .int .i64 (cmpI a b)) (fun _ : Unit => L) (fun _ : Unit => True) :=
  ctr' (M' := (fun _ : Unit => [])) (by kernel_rfl) (fun hp w hw => by exact pl_cmp8 _ _ w) (by rintro hp e0 rfl ok; exact ⟨(), rfl, rfl, trivial⟩)
theorem pl_cmp64 (a : Int) (b : Int) (w0 : World)   :
    Ct Try.prog 45 [.int .u64 a, .int .u64 b] w0 no (fun ((e0) : Int) => .int .i64 e0) (fun (e0) => []) (fun (e0) => e0 = cmpI a b) := by
  have hst := St.start w0
  refine genter _ hst Try.func45 rfl rfl rfl rfl ?_
  repeat' (first
   | (refine kO ?_; first | refine gv rfl rfl ?_ | refine gnil ?_ | refine gp rfl (by (try simp only [InR]); omega) rfl ?_ | (refine kK ?_; first | refine gcall rfl ?_ rfl (fun _ _ => ?_) (fun _ _ => ?_) | refine gcv rfl rfl ?_ rfl (fun _ _ => ?_) (fun _ _ => ?_) | refine gcc1 rfl rfl ?_ rfl (fun _ _ => ?_) (fun _ _ => ?_)))
   | (refine kC ?_; first | refine gseq ?_ | refine greg ?_ | refine gret ?_ | refine gskip ?_ | (refine gcond rfl (fun h => ?_) (fun h => ?_) <;> (first | exact h.elim | (exfalso; omega) | exact absurd h (by assumption) | exact absurd (by assumption) h | skip)))
   | (refine kN ?_; first | refine gthen ?_)
   | (refine kR ?_; first | refine grs ?_ | refine grc ?_)
   | (refine kR ?_; refine gr rfl (rvT rfl rv0) (_) rfl Ent.nil ?_)
   | (refine Pre.mk ?_; first | exact True.intro | omega | ((repeat' (first | refine And.intro ?_ ?_ | exact True.intro | assumption | omega)); done) | (simp only [and_true, true_and, or_true, true_or]; first | done | omega))
   | (refine kD ?_; first | exact dm_none))
  all_goals (unfold cmpI; grind)
instance c_pl_cmp64 {a : Int} {b : Int} {w0 : World} {X : Nat → Prop} {L : List Assn}  : Ctr Try.prog 45 [.int .u64 a, .int .u64 b] w0 X L (True) (fun _ : Unit => .int .i64 (cmpI a b)) (fun _ : Unit => L) (fun _ : Unit => True) :=
  ctr' (M' := (fun _ : Unit => [])) (by kernel_rfl) (fun hp w hw => by exact pl_cmp64 _ _ w) (by rintro hp e0 rfl ok; exact ⟨(), rfl, rfl, trivial⟩)
/-! ints, numbers of 64 bits -/
def RI : Rep Int := ⟨1, fun n => [.one (.int .i64 n)], by decide, fun _ => ⟨trivial, rfl, rfl⟩⟩
instance : SzIs RI 1 := ⟨rfl⟩
instance {n : Int} : Elm RI (.int .i64 n) n := ⟨rfl⟩
instance : EL Try.prog 3 1 8 := ⟨by
  obtain ⟨i, h1, h2, h3, h4⟩ := info_parts (show (Try.prog.info? 3).map (fun i => (i.zero, i.size, i.bytes)) = some (some (.int .i64 0), 1, 8) by kernel_rfl)
  exact ⟨i, _, h1, h2, h3, h4, rfl, by decide⟩⟩
instance : ZE Try.prog 3 RI 0 := ⟨by kernel_rfl, by kernel_rfl⟩
def RU : Rep UInt64 := ⟨1, fun x => [.one (.int .u64 (x.toNat : Int))], by decide, fun _ => ⟨trivial, rfl, rfl⟩⟩
instance : SzIs RU 1 := ⟨rfl⟩
instance {x : UInt64} : Elm RU (.int .u64 (x.toNat : Int)) x := ⟨rfl⟩
instance Rng.u64 {x : UInt64} : Rng (.int .u64 (x.toNat : Int)) (0 ≤ (x.toNat : Int) ∧ (x.toNat : Int) ≤ 18446744073709551615) := ⟨by have := x.toNat_lt; omega⟩
@[reducible] def parentG (p : PlG) : PlG := ⟨IntKind.wrap .u8 (p.row + 1), p.at_ / 2⟩
@[reducible] def neighG (p : PlG) : PlG := ⟨p.row, bits BinOp.xor .u64 p.at_ 1⟩
@[reducible] def kidL (p : PlG) : PlG := if p.row = 0 then ⟨0, 0⟩ else ⟨p.row - 1, IntKind.wrap .u64 (2 * p.at_)⟩
@[reducible] def kidR (p : PlG) : PlG := if p.row = 0 then ⟨0, 0⟩ else ⟨p.row - 1, IntKind.wrap .u64 (IntKind.wrap .u64 (2 * p.at_) + 1)⟩
theorem pl_parent (r : Int) (a : Int) (w0 : World)  (hp : 0 ≤ r ∧ r ≤ 255 ∧ 0 ≤ a ∧ a ≤ 18446744073709551615) :
    Ct Try.prog 22 [Ag [.one (.int .u8 r), .one (.int .u64 a)]] w0 no (fun ((e0, e1) : Int × Int) => Ag [.one (.int .u8 e0), .one (.int .u64 e1)]) (fun (e0, e1) => []) (fun (e0, e1) => e0 = (parentG ⟨r, a⟩).row ∧ e1 = (parentG ⟨r, a⟩).at_) := by
  have hst := St.start w0
  refine genter _ hst Try.func22 rfl rfl rfl rfl ?_
  repeat' (first
   | (refine kO ?_; first | refine gv rfl rfl ?_ | refine gnil ?_ | refine gl rfl (lvb rfl rfl) rfl (fun _ => ?_) | refine gl rfl (lvB rfl rfl rfl) rfl (fun _ => ?_) | refine gl rfl (lve rfl rfl) rfl (fun _ => ?_) | refine gl rfl (lvE rfl rfl rfl) rfl (fun _ => ?_) | refine gl rfl (lva rfl rfl rfl rfl rfl) rfl (fun _ => ?_) | refine gp rfl (by (try simp only [InR]); omega) rfl ?_ | refine gf rfl rfl rfl ?_ | refine gbu rfl rfl rfl rfl rfl ?_ | refine gx rfl rfl (fun _ => ?_) (fun _ => ?_) | refine ga rfl (fun _ => ?_) (fun _ => ?_) | refine gst rfl rfl rfl rfl ?_ ?_ | refine ge rfl rfl rfl rfl ?_ ?_ | refine gea rfl rfl rfl rfl rfl rfl rfl ?_ ?_ | refine gw rfl rfl ?_)
   | (refine kC ?_; first | refine gseq ?_ | refine greg ?_ | refine gret ?_ | refine gskip ?_)
   | (refine kN ?_; first | refine gthen ?_)
   | (refine kR ?_; first | refine grs ?_ | refine grc ?_)
   | (refine kR ?_; refine gr rfl (rvC rfl (lvb rfl rfl) rv0) (_, _) rfl Ent.nil ?_)
   | (refine kR ?_; refine gr rfl (rvC rfl (lvB rfl rfl rfl) rv0) (_, _) rfl Ent.nil ?_)
   | (refine kD ?_; first | exact dm_none))
  all_goals exact ⟨rfl, rfl⟩
instance c_pl_parent {r : Int} {a : Int} {w0 : World} {X : Nat → Prop} {L : List Assn}  : Ctr Try.prog 22 [Ag [.one (.int .u8 r), .one (.int .u64 a)]] w0 X L (0 ≤ r ∧ r ≤ 255 ∧ 0 ≤ a ∧ a ≤ 18446744073709551615) (fun _ : Unit => Ag [.one (.int .u8 ((parentG ⟨r, a⟩).row)), .one (.int .u64 ((parentG ⟨r, a⟩).at_))]) (fun _ : Unit => L) (fun _ : Unit => True) :=
  ctr' (M' := (fun _ : Unit => [])) (by kernel_rfl) (fun hp w hw => by exact pl_parent _ _ w hp) (by rintro hp ⟨e0, e1⟩ ⟨rfl, rfl⟩ ok; exact ⟨(), rfl, rfl, trivial⟩)
theorem pl_neigh (r : Int) (a : Int) (w0 : World)  (hp : 0 ≤ r ∧ r ≤ 255 ∧ 0 ≤ a ∧ a ≤ 18446744073709551615) :
    Ct Try.prog 24 [Ag [.one (.int .u8 r), .one (.int .u64 a)]] w0 no (fun ((e0, e1) : Int × Int) => Ag [.one (.int .u8 e0), .one (.int .u64 e1)]) (fun (e0, e1) => []) (fun (e0, e1) => e0 = (neighG ⟨r, a⟩).row ∧ e1 = (neighG ⟨r, a⟩).at_) := by
  have hst := St.start w0
  refine genter _ hst Try.func24 rfl rfl rfl rfl ?_
  repeat' (first
   | (refine kO ?_; first | refine gv rfl rfl ?_ | refine gnil ?_ | refine gl rfl (lvb rfl rfl) rfl (fun _ => ?_) | refine gl rfl (lvB rfl rfl rfl) rfl (fun _ => ?_) | refine gl rfl (lve rfl rfl) rfl (fun _ => ?_) | refine gl rfl (lvE rfl rfl rfl) rfl (fun _ => ?_) | refine gl rfl (lva rfl rfl rfl rfl rfl) rfl (fun _ => ?_) | refine gp rfl (by (try simp only [InR]); omega) rfl ?_ | refine gf rfl rfl rfl ?_ | refine gbu rfl rfl rfl rfl rfl ?_ | refine gx rfl rfl (fun _ => ?_) (fun _ => ?_) | refine ga rfl (fun _ => ?_) (fun _ => ?_) | refine gst rfl rfl rfl rfl ?_ ?_ | refine ge rfl rfl rfl rfl ?_ ?_ | refine gea rfl rfl rfl rfl rfl rfl rfl ?_ ?_)
   | (refine kC ?_; first | refine gseq ?_ | refine greg ?_ | refine gret ?_ | refine gskip ?_)
   | (refine kN ?_; first | refine gthen ?_)
   | (refine kR ?_; first | refine grs ?_ | refine grc ?_)
   | (refine kR ?_; refine gr rfl (rvC rfl (lvb rfl rfl) rv0) (_, _) rfl Ent.nil ?_)
   | (refine kR ?_; refine gr rfl (rvC rfl (lvB rfl rfl rfl) rv0) (_, _) rfl Ent.nil ?_)
   | (refine kD ?_; first | exact dm_none))
  all_goals exact ⟨rfl, rfl⟩
instance c_pl_neigh {r : Int} {a : Int} {w0 : World} {X : Nat → Prop} {L : List Assn}  : Ctr Try.prog 24 [Ag [.one (.int .u8 r), .one (.int .u64 a)]] w0 X L (0 ≤ r ∧ r ≤ 255 ∧ 0 ≤ a ∧ a ≤ 18446744073709551615) (fun _ : Unit => Ag [.one (.int .u8 ((neighG ⟨r, a⟩).row)), .one (.int .u64 ((neighG ⟨r, a⟩).at_))]) (fun _ : Unit => L) (fun _ : Unit => True) :=
  ctr' (M' := (fun _ : Unit => [])) (by kernel_rfl) (fun hp w hw => by exact pl_neigh _ _ w hp) (by rintro hp ⟨e0, e1⟩ ⟨rfl, rfl⟩ ok; exact ⟨(), rfl, rfl, trivial⟩)
theorem pl_kids (r : Int) (a : Int) (w0 : World)  (hp : 0 ≤ r ∧ r ≤ 255 ∧ 0 ≤ a ∧ a ≤ 18446744073709551615) :
    Ct Try.prog 20 [Ag [.one (.int .u8 r), .one (.int .u64 a)]] w0 no (fun ((e0, e1, e2, e3) : Int × Int × Int × Int) => .tuple #[Ag [.one (.int .u8 e0), .one (.int .u64 e1)], Ag [.one (.int .u8 e2), .one (.int .u64 e3)]]) (fun (e0, e1, e2, e3) => []) (fun (e0, e1, e2, e3) => e0 = (kidL ⟨r, a⟩).row ∧ e1 = (kidL ⟨r, a⟩).at_ ∧ e2 = (kidR ⟨r, a⟩).row ∧ e3 = (kidR ⟨r, a⟩).at_) := by
  have hst := St.start w0
  refine genter _ hst Try.func20 rfl rfl rfl rfl ?_
  repeat' (first
   | (refine kO ?_; first | refine gv rfl rfl ?_ | refine gnil ?_ | refine gnilD ?_ | refine gl rfl (lvb rfl rfl) rfl (fun _ => ?_) | refine gl rfl (lvB rfl rfl rfl) rfl (fun _ => ?_) | refine gl rfl (lve rfl rfl) rfl (fun _ => ?_) | refine gl rfl (lvE rfl rfl rfl) rfl (fun _ => ?_) | refine gl rfl (lva rfl rfl rfl rfl rfl) rfl (fun _ => ?_) | refine gp rfl (by (try simp only [InR]); omega) rfl ?_ | refine gf rfl rfl rfl ?_ | refine geql rfl rfl (by kernel_rfl) ?_ rfl ?_ | refine gbu rfl rfl rfl rfl rfl ?_ | refine gx rfl rfl (fun _ => ?_) (fun _ => ?_) | refine ga rfl (fun _ => ?_) (fun _ => ?_) | refine gst rfl rfl rfl rfl ?_ ?_ | refine ge rfl rfl rfl rfl ?_ ?_ | refine gea rfl rfl rfl rfl rfl rfl rfl ?_ ?_ | refine gw rfl rfl ?_)
   | (refine kC ?_; first | refine gseq ?_ | refine greg ?_ | refine gret ?_ | refine gskip ?_ | refine gdraw (id := 2) [0,1,2,3] (by kernel_rfl) (by kernel_rfl) rfl ?_ | refine gdraw (id := 3) [0,1,2,3,4,5,6,7,8,9,10,11,12,13,14,15,16] (by kernel_rfl) (by kernel_rfl) rfl ?_ | (refine gcond rfl (fun h => ?_) (fun h => ?_) <;> (first | exact h.elim | (exfalso; omega) | exact absurd h (by assumption) | exact absurd (by assumption) h | skip)))
   | (refine kN ?_; first | refine gthen ?_)
   | (refine kR ?_; first | refine grs ?_ | refine grc ?_)
   | (refine kR ?_; refine gr rfl (rvC rfl (lvb rfl rfl) (rvC rfl (lvb rfl rfl) rv0)) (_, _, _, _) rfl Ent.nil ?_)
   | (refine kR ?_; refine gr rfl (rvC rfl (lvB rfl rfl rfl) (rvC rfl (lvb rfl rfl) rv0)) (_, _, _, _) rfl Ent.nil ?_)
   | (refine kR ?_; refine gr rfl (rvC rfl (lvb rfl rfl) (rvC rfl (lvB rfl rfl rfl) rv0)) (_, _, _, _) rfl Ent.nil ?_)
   | (refine kR ?_; refine gr rfl (rvC rfl (lvB rfl rfl rfl) (rvC rfl (lvB rfl rfl rfl) rv0)) (_, _, _, _) rfl Ent.nil ?_)
   | (refine Pre.mk ?_; first | exact True.intro | omega | ((repeat' (first | refine And.intro ?_ ?_ | exact True.intro | assumption | omega)); done) | (simp only [and_true, true_and, or_true, true_or]; first | done | omega))
   | (refine kD ?_; first | exact dm_none | exact dm0 | refine dmOff rfl ?_ | refine dmOn (lvb rfl rfl) ?_ | refine dmOn (lvB rfl rfl rfl) ?_ | refine dmOn (lve rfl rfl) ?_ | refine dmOn (lvE rfl rfl rfl) ?_ | refine dmOn (lva rfl rfl rfl rfl rfl) ?_))
  all_goals simp [kidL, kidR, h]
instance c_pl_kids {r : Int} {a : Int} {w0 : World} {X : Nat → Prop} {L : List Assn}  : Ctr Try.prog 20 [Ag [.one (.int .u8 r), .one (.int .u64 a)]] w0 X L (0 ≤ r ∧ r ≤ 255 ∧ 0 ≤ a ∧ a ≤ 18446744073709551615) (fun _ : Unit => .tuple #[Ag [.one (.int .u8 ((kidL ⟨r, a⟩).row)), .one (.int .u64 ((kidL ⟨r, a⟩).at_))], Ag [.one (.int .u8 ((kidR ⟨r, a⟩).row)), .one (.int .u64 ((kidR ⟨r, a⟩).at_))]]) (fun _ : Unit => L) (fun _ : Unit => True) :=
  ctr' (M' := (fun _ : Unit => [])) (by kernel_rfl) (fun hp w hw => by exact pl_kids _ _ w hp) (by rintro hp ⟨e0, e1, e2, e3⟩ ⟨rfl, rfl, rfl, rfl⟩ ok; exact ⟨(), rfl, rfl, trivial⟩)
theorem drop_ixd {G : Type} [Inhabited G] {l : List G} {i : Nat} (h : i < l.length) : l.drop i = ixd l (i : Int) :: l.drop (i + 1) := by
  rw [ixd_eq (by simpa using h), List.drop_eq_getElem_cons h]; rfl
theorem pl_or (lA : Option Addr) (lc : Nat) (l : List Int) (w0 : World) (hl : Slr w0 RI (.slice lA l.length lc) l)  :
    Ct Try.prog 43 [.slice lA l.length lc] w0 no (fun ((e0) : Int) => .int .i64 e0) (fun (e0) => []) (fun (e0) => e0 = orL l) := by
  have hst := St.start w0
  have i_l := Rw.old hl
  refine genter _ hst Try.func43 rfl rfl rfl rfl ?_
  have hcap := hl.cap
  repeat' (first
   | (refine kO ?_; first | refine gv rfl rfl ?_ | refine gnil ?_ | refine gl rfl (lvb rfl rfl) rfl (fun _ => ?_) | refine gl rfl (lvB rfl rfl rfl) rfl (fun _ => ?_) | refine gl rfl (lve rfl rfl) rfl (fun _ => ?_) | refine gl rfl (lvE rfl rfl rfl) rfl (fun _ => ?_) | refine gl rfl (lva rfl rfl rfl rfl rfl) rfl (fun _ => ?_) | refine gp rfl (by (try simp only [InR]); omega) rfl ?_ | refine gix rfl rfl rfl rfl (by omega) rfl (fun _ => ?_) | refine gixa rfl rfl rfl rfl (by omega) rfl (fun _ => ?_) | (refine kK ?_; first | refine gcall rfl ?_ rfl (fun _ _ => ?_) (fun _ _ => ?_) | refine gcv rfl rfl ?_ rfl (fun _ _ => ?_) (fun _ _ => ?_) | refine gcc1 rfl rfl ?_ rfl (fun _ _ => ?_) (fun _ _ => ?_)) | refine gneq rfl rfl (by kernel_rfl) ?_ rfl ?_ | refine gw rfl rfl ?_)
   | (refine kC ?_; first | refine gseq ?_ | refine greg ?_ | refine gret ?_ | refine gskip ?_ | (refine gcond rfl (fun h => ?_) (fun h => ?_) <;> (first | exact h.elim | (exfalso; omega) | exact absurd h (by assumption) | exact absurd (by assumption) h | skip)) | refine gblk ?_ | refine gexit ?_)
   | (refine kN ?_; first | refine gthen ?_ | refine gnblk ?_)
   | (refine kR ?_; first | refine grs ?_ | refine grb ?_ | refine grl ?_ | refine grc ?_)
   | (refine kX ?_; first | refine gxs ?_ | refine gxb ?_ | refine gxn rfl ?_ | refine gxl ?_ | refine gxc ?_)
   | (refine kR ?_; refine gr rfl (rvT rfl rv0) (_) rfl Ent.nil ?_)
   | (refine Pre.mk ?_; first | exact True.intro | omega | ((repeat' (first | refine And.intro ?_ ?_ | exact True.intro | assumption | omega)); done) | (simp only [and_true, true_and, or_true, true_or]; first | done | omega))
   | (refine kD ?_; first | exact dm_none))
  refine gloopc [3, 6, 7] (fun (i : Nat) K => (8, .int .i64 i) :: K) (fun i => i ≤ l.length ∧ orL l = orL (l.drop i)) (fun i => l.length - i) 0 rfl (by repeat (first | exact trivial | refine ⟨rfl, ?_⟩)) (by simp) (fun i hi => ?_)
  repeat' (first
   | (refine kO ?_; first | refine gv rfl rfl ?_ | refine gnil ?_ | refine gl rfl (lvb rfl rfl) rfl (fun _ => ?_) | refine gl rfl (lvB rfl rfl rfl) rfl (fun _ => ?_) | refine gl rfl (lve rfl rfl) rfl (fun _ => ?_) | refine gl rfl (lvE rfl rfl rfl) rfl (fun _ => ?_) | refine gl rfl (lva rfl rfl rfl rfl rfl) rfl (fun _ => ?_) | refine gp rfl (by (try simp only [InR]); omega) rfl ?_ | refine gix rfl rfl rfl rfl (by omega) rfl (fun _ => ?_) | refine gixa rfl rfl rfl rfl (by omega) rfl (fun _ => ?_) | (refine kK ?_; first | refine gcall rfl ?_ rfl (fun _ _ => ?_) (fun _ _ => ?_) | refine gcv rfl rfl ?_ rfl (fun _ _ => ?_) (fun _ _ => ?_) | refine gcc1 rfl rfl ?_ rfl (fun _ _ => ?_) (fun _ _ => ?_)) | refine gneq rfl rfl (by kernel_rfl) ?_ rfl ?_ | refine gw rfl rfl ?_)
   | (refine kC ?_; first | refine gseq ?_ | refine greg ?_ | refine gret ?_ | refine gskip ?_ | (refine gcond rfl (fun h => ?_) (fun h => ?_) <;> (first | exact h.elim | (exfalso; omega) | exact absurd h (by assumption) | exact absurd (by assumption) h | skip)) | refine gblk ?_ | refine gexit ?_)
   | (refine kN ?_; first | refine gthen ?_ | refine gnblk ?_)
   | (refine kR ?_; first | refine grs ?_ | refine grb ?_ | refine grl ?_ | refine grc ?_)
   | (refine kX ?_; first | refine gxs ?_ | refine gxb ?_ | refine gxn rfl ?_ | refine gxl ?_ | refine gxc ?_)
   | (refine kR ?_; refine gr rfl (rvT rfl rv0) (_) rfl Ent.nil ?_)
   | (refine Pre.mk ?_; first | exact True.intro | omega | ((repeat' (first | refine And.intro ?_ ?_ | exact True.intro | assumption | omega)); done) | (simp only [and_true, true_and, or_true, true_or]; first | done | omega))
   | (refine kD ?_; first | exact dm_none))
  · rw [hi.2, drop_ixd (by omega), orL, if_pos h]
  · refine gnl (i + 1) (by repeat (first | exact trivial | refine ⟨rfl, ?_⟩)) (Ent.refl _) ⟨by omega, ?_⟩ (by omega)
    rw [hi.2, drop_ixd (by omega), orL, if_neg (by omega)]
  · rw [hi.2, List.drop_eq_nil_of_le (by omega)]; rfl
instance c_pl_or {lA : Option Addr} {lc ln : Nat} {l : List Int} {w0 : World} {X : Nat → Prop} {L : List Assn} [hl : Rw w0 X L (.slice lA ln lc) RI l] : Ctr Try.prog 43 [.slice lA ln lc] w0 X L (True) (fun _ : Unit => .int .i64 (orL l)) (fun _ : Unit => L) (fun _ : Unit => True) :=
  ctr' (M' := (fun _ : Unit => [])) (by kernel_rfl) (fun hp w hw => by have el := hl.len hw; subst el; exact pl_or _ _ _ w (hl.get w hw)) (by rintro hp e0 rfl ok; exact ⟨(), rfl, rfl, trivial⟩)
theorem pl_compare (r : Int) (a : Int) (r2 : Int) (a2 : Int) (w0 : World)   :
    Ct Try.prog 40 [Ag [.one (.int .u8 r), .one (.int .u64 a)], Ag [.one (.int .u8 r2), .one (.int .u64 a2)]] w0 no (fun ((e0) : Int) => .int .i64 e0) (fun (e0) => []) (fun (e0) => e0 = cmpP ⟨r, a⟩ ⟨r2, a2⟩) := by
  have hst := St.start w0
  refine genter _ hst Try.func40 rfl rfl rfl rfl ?_
  repeat' (first
   | (refine kO ?_; first | refine gbs RI rfl rfl rfl rfl rfl rfl (fun _ => ?_) (fun _ => ?_) | refine gv rfl rfl ?_ | refine gnil ?_ | refine gnilD ?_ | refine gl rfl (lvb rfl rfl) rfl (fun _ => ?_) | refine gl rfl (lvB rfl rfl rfl) rfl (fun _ => ?_) | refine gl rfl (lve rfl rfl) rfl (fun _ => ?_) | refine gl rfl (lvE rfl rfl rfl) rfl (fun _ => ?_) | refine gl rfl (lva rfl rfl rfl rfl rfl) rfl (fun _ => ?_) | refine gf rfl rfl rfl ?_ | (refine kK ?_; first | refine gcall rfl ?_ rfl (fun _ _ => ?_) (fun _ _ => ?_) | refine gcv rfl rfl ?_ rfl (fun _ _ => ?_) (fun _ _ => ?_) | refine gcc1 rfl rfl ?_ rfl (fun _ _ => ?_) (fun _ _ => ?_)) | refine gx rfl rfl (fun _ => ?_) (fun _ => ?_) | refine gbs RB rfl rfl rfl rfl rfl rfl (fun _ => ?_) (fun _ => ?_) | refine gbb rfl rfl rfl (by first | (simp; done) | (simp only [and_true]; omega)) rfl rfl rfl rfl (fun _ => ?_) (fun _ => ?_))
   | (refine kC ?_; first | refine gseq ?_ | refine greg ?_ | refine gret ?_ | refine gskip ?_ | refine gdraw (id := 1) [0,1,2,3,5,6,7,8,4,9,10,11,12] (by kernel_rfl) (by kernel_rfl) rfl ?_)
   | (refine kN ?_; first | refine gthen ?_)
   | (refine kR ?_; first | refine grs ?_ | refine grc ?_)
   | (refine kR ?_; refine gr rfl (rvT rfl rv0) (_) rfl Ent.nil ?_)
   | (refine Pre.mk ?_; first | exact True.intro | omega | ((repeat' (first | refine And.intro ?_ ?_ | exact True.intro | assumption | omega)); done) | (simp only [and_true, true_and, or_true, true_or]; first | done | omega))
   | (refine kD ?_; first | exact dm_none | exact dm0 | refine dmOff rfl ?_ | refine dmOn (lvb rfl rfl) ?_ | refine dmOn (lvB rfl rfl rfl) ?_ | refine dmOn (lve rfl rfl) ?_ | refine dmOn (lvE rfl rfl rfl) ?_ | refine dmOn (lva rfl rfl rfl rfl rfl) ?_))
  all_goals (simp only [orL, cmpP]; grind)
instance c_pl_compare {r : Int} {a : Int} {r2 : Int} {a2 : Int} {w0 : World} {X : Nat → Prop} {L : List Assn}  : Ctr Try.prog 40 [Ag [.one (.int .u8 r), .one (.int .u64 a)], Ag [.one (.int .u8 r2), .one (.int .u64 a2)]] w0 X L (True) (fun _ : Unit => .int .i64 (cmpP ⟨r, a⟩ ⟨r2, a2⟩)) (fun _ : Unit => L) (fun _ : Unit => True) :=
  ctr' (M' := (fun _ : Unit => [])) (by kernel_rfl) (fun hp w hw => by exact pl_compare _ _ _ _ w) (by rintro hp e0 rfl ok; exact ⟨(), rfl, rfl, trivial⟩)
theorem pl_less (r : Int) (a : Int) (r2 : Int) (a2 : Int) (w0 : World)   :
    Ct Try.prog 26 [Ag [.one (.int .u8 r), .one (.int .u64 a)], Ag [.one (.int .u8 r2), .one (.int .u64 a2)]] w0 no (fun ((e0) : Bool) => .bool e0) (fun (e0) => []) (fun (e0) => e0 = decide (cmpP ⟨r, a⟩ ⟨r2, a2⟩ < 0)) := by
  have hst := St.start w0
  refine genter _ hst Try.func26 rfl rfl rfl rfl ?_
  repeat' (first
   | (refine kO ?_; first | refine gv rfl rfl ?_ | refine gnil ?_ | refine gl rfl (lvb rfl rfl) rfl (fun _ => ?_) | refine gl rfl (lvB rfl rfl rfl) rfl (fun _ => ?_) | refine gl rfl (lve rfl rfl) rfl (fun _ => ?_) | refine gl rfl (lvE rfl rfl rfl) rfl (fun _ => ?_) | refine gl rfl (lva rfl rfl rfl rfl rfl) rfl (fun _ => ?_) | refine gp rfl (by (try simp only [InR]); omega) rfl ?_ | (refine kK ?_; first | refine gcall rfl ?_ rfl (fun _ _ => ?_) (fun _ _ => ?_) | refine gcv rfl rfl ?_ rfl (fun _ _ => ?_) (fun _ _ => ?_) | refine gcc1 rfl rfl ?_ rfl (fun _ _ => ?_) (fun _ _ => ?_)) | refine gx rfl rfl (fun _ => ?_) (fun _ => ?_))
   | (refine kC ?_; first | refine gseq ?_ | refine greg ?_ | refine gret ?_ | refine gskip ?_)
   | (refine kN ?_; first | refine gthen ?_)
   | (refine kR ?_; first | refine grs ?_ | refine grc ?_)
   | (refine kR ?_; refine gr rfl (rvT rfl rv0) (_) rfl Ent.nil ?_)
   | (refine Pre.mk ?_; first | exact True.intro | omega | ((repeat' (first | refine And.intro ?_ ?_ | exact True.intro | assumption | omega)); done) | (simp only [and_true, true_and, or_true, true_or]; first | done | omega))
   | (refine kD ?_; first | exact dm_none))
  all_goals rfl
instance c_pl_less {r : Int} {a : Int} {r2 : Int} {a2 : Int} {w0 : World} {X : Nat → Prop} {L : List Assn}  : Ctr Try.prog 26 [Ag [.one (.int .u8 r), .one (.int .u64 a)], Ag [.one (.int .u8 r2), .one (.int .u64 a2)]] w0 X L (True) (fun _ : Unit => .bool (decide (cmpP ⟨r, a⟩ ⟨r2, a2⟩ < 0))) (fun _ : Unit => L) (fun _ : Unit => True) :=
  ctr' (M' := (fun _ : Unit => [])) (by kernel_rfl) (fun hp w hw => by exact pl_less _ _ _ _ w) (by rintro hp e0 rfl ok; exact ⟨(), rfl, rfl, trivial⟩)
def MayJ (n : Int) (cs : List UInt64) (j : Nat) : Prop := ((ixd cs (j : Int)).toNat : Int) < n ∧ (0 < j → ((ixd cs ((j : Int) - 1)).toNat : Int) < ((ixd cs (j : Int)).toNat : Int))
def MayC (n : Int) (cs : List UInt64) : Prop := (∀ j : Nat, j < cs.length → MayJ n cs j) ∧ n ≤ 1048576 ∧ cs.length ≤ 256
open Classical in
noncomputable def mayB (n : Int) (cs : List UInt64) : Bool := decide (MayC n cs)
theorem mayB_no {n : Int} {cs : List UInt64} (h : ¬ MayC n cs) : false = mayB n cs := by unfold mayB; simp [h]
theorem mayB_J {n : Int} {cs : List UInt64} {i : Nat} (hi : i < cs.length) (h : ¬ MayJ n cs i) : false = mayB n cs := mayB_no fun hc => h (hc.1 i hi)
theorem pl_may (n : Int) (csA : Option Addr) (csc : Nat) (cs : List UInt64) (w0 : World) (hcs : Slr w0 RU (.slice csA cs.length csc) cs)  :
    Ct Try.prog 29 [.int .u64 n, .slice csA cs.length csc] w0 no (fun ((e0) : Bool) => .bool e0) (fun (e0) => []) (fun (e0) => e0 = mayB n cs) := by
  have hst := St.start w0
  have i_cs := Rw.old hcs
  refine genter _ hst Try.func29 rfl rfl rfl rfl ?_
  have hcap := hcs.cap
  repeat' (first
   | (refine kO ?_; first | refine gv rfl rfl ?_ | refine gnil ?_ | refine gl rfl (lvb rfl rfl) rfl (fun _ => ?_) | refine gl rfl (lvB rfl rfl rfl) rfl (fun _ => ?_) | refine gl rfl (lve rfl rfl) rfl (fun _ => ?_) | refine gl rfl (lvE rfl rfl rfl) rfl (fun _ => ?_) | refine gl rfl (lva rfl rfl rfl rfl rfl) rfl (fun _ => ?_) | refine gp rfl (by (try simp only [InR]); omega) rfl ?_ | refine gix rfl rfl rfl rfl (by omega) rfl (fun _ => ?_) | refine gixa rfl rfl rfl rfl (by omega) rfl (fun _ => ?_) | (refine kK ?_; first | refine gcall rfl ?_ rfl (fun _ _ => ?_) (fun _ _ => ?_) | refine gcv rfl rfl ?_ rfl (fun _ _ => ?_) (fun _ _ => ?_) | refine gcc1 rfl rfl ?_ rfl (fun _ _ => ?_) (fun _ _ => ?_)) | refine gw rfl rfl ?_ | (refine kg ?_; (first | refine guardT rfl rfl rfl rfl (fun h => ?_) (fun h => ?_) | refine guardF rfl rfl rfl rfl (fun h => ?_) (fun h => ?_) | refine guardU rfl rfl rfl rfl ?_ | refine guardTH rfl rfl rfl rfl ?_ (fun h => ?_) (fun h => ?_) | refine guardFH rfl rfl rfl rfl ?_ (fun h => ?_) (fun h => ?_) | refine guardUH rfl rfl rfl rfl ?_ ?_) <;> (first | exact h.elim | (exfalso; omega) | exact absurd h (by assumption) | exact absurd (by assumption) h | skip)))
   | (refine kC ?_; first | refine gseq ?_ | refine greg ?_ | refine gret ?_ | refine gskip ?_ | (refine gcond rfl (fun h => ?_) (fun h => ?_) <;> (first | exact h.elim | (exfalso; omega) | exact absurd h (by assumption) | exact absurd (by assumption) h | skip)) | refine gblk ?_ | refine gexit ?_)
   | (refine kN ?_; first | refine gthen ?_ | refine gnblk ?_)
   | (refine kR ?_; first | refine grs ?_ | refine grb ?_ | refine grl ?_ | refine grc ?_)
   | (refine kX ?_; first | refine gxs ?_ | refine gxb ?_ | refine gxn rfl ?_ | refine gxl ?_ | refine gxc ?_)
   | (refine kR ?_; refine gr rfl (rvT rfl rv0) (_) rfl Ent.nil ?_)
   | (refine Pre.mk ?_; first | exact True.intro | omega | ((repeat' (first | refine And.intro ?_ ?_ | exact True.intro | assumption | omega)); done) | (simp only [and_true, true_and, or_true, true_or]; first | done | omega))
   | (refine kD ?_; first | exact dm_none))
  refine gloopc [0, 1, 7, 8] (fun (i : Nat) K => (9, .int .i64 i) :: K) (fun i => i ≤ cs.length ∧ ∀ j : Nat, j < i → MayJ n cs j) (fun i => cs.length - i) 0 rfl (by repeat (first | exact trivial | refine ⟨rfl, ?_⟩)) (by simp) (fun i hi => ?_)
  repeat' (first
   | (refine kO ?_; first | refine gv rfl rfl ?_ | refine gnil ?_ | refine gl rfl (lvb rfl rfl) rfl (fun _ => ?_) | refine gl rfl (lvB rfl rfl rfl) rfl (fun _ => ?_) | refine gl rfl (lve rfl rfl) rfl (fun _ => ?_) | refine gl rfl (lvE rfl rfl rfl) rfl (fun _ => ?_) | refine gl rfl (lva rfl rfl rfl rfl rfl) rfl (fun _ => ?_) | refine gp rfl (by (try simp only [InR]); omega) rfl ?_ | refine gix rfl rfl rfl rfl (by omega) rfl (fun _ => ?_) | refine gixa rfl rfl rfl rfl (by omega) rfl (fun _ => ?_) | (refine kK ?_; first | refine gcall rfl ?_ rfl (fun _ _ => ?_) (fun _ _ => ?_) | refine gcv rfl rfl ?_ rfl (fun _ _ => ?_) (fun _ _ => ?_) | refine gcc1 rfl rfl ?_ rfl (fun _ _ => ?_) (fun _ _ => ?_)) | refine gw rfl rfl ?_ | (refine kg ?_; (first | refine guardT rfl rfl rfl rfl (fun h => ?_) (fun h => ?_) | refine guardF rfl rfl rfl rfl (fun h => ?_) (fun h => ?_) | refine guardU rfl rfl rfl rfl ?_ | refine guardTH rfl rfl rfl rfl ?_ (fun h => ?_) (fun h => ?_) | refine guardFH rfl rfl rfl rfl ?_ (fun h => ?_) (fun h => ?_) | refine guardUH rfl rfl rfl rfl ?_ ?_) <;> (first | exact h.elim | (exfalso; omega) | exact absurd h (by assumption) | exact absurd (by assumption) h | skip)))
   | (refine kC ?_; first | refine gseq ?_ | refine greg ?_ | refine gret ?_ | refine gskip ?_ | (refine gcond rfl (fun h => ?_) (fun h => ?_) <;> (first | exact h.elim | (exfalso; omega) | exact absurd h (by assumption) | exact absurd (by assumption) h | skip)) | refine gblk ?_ | refine gexit ?_)
   | (refine kN ?_; first | refine gthen ?_ | refine gnblk ?_)
   | (refine kR ?_; first | refine grs ?_ | refine grb ?_ | refine grl ?_ | refine grc ?_)
   | (refine kX ?_; first | refine gxs ?_ | refine gxb ?_ | refine gxn rfl ?_ | refine gxl ?_ | refine gxc ?_)
   | (refine kR ?_; refine gr rfl (rvT rfl rv0) (_) rfl Ent.nil ?_)
   | (refine Pre.mk ?_; first | exact True.intro | omega | ((repeat' (first | refine And.intro ?_ ?_ | exact True.intro | assumption | omega)); done) | (simp only [and_true, true_and, or_true, true_or]; first | done | omega))
   | (refine kD ?_; first | exact dm_none))
  · exact mayB_J (i := i) (by omega) fun hc => by have := hc.2 (by omega); omega
  · refine gnl (i + 1) (by repeat (first | exact trivial | refine ⟨rfl, ?_⟩)) (Ent.refl _) ⟨by omega, fun j hj => ?_⟩ (by omega)
    by_cases e : j = i
    · subst e; exact ⟨by omega, fun _ => by omega⟩
    · exact hi.2 j (by omega)
  · refine gnl (i + 1) (by repeat (first | exact trivial | refine ⟨rfl, ?_⟩)) (Ent.refl _) ⟨by omega, fun j hj => ?_⟩ (by omega)
    by_cases e : j = i
    · subst e; exact ⟨by omega, fun _ => by omega⟩
    · exact hi.2 j (by omega)
  · exact mayB_J (i := i) (by omega) fun hc => by have := hc.1; omega
  · unfold mayB
    rw [decide_eq_decide]
    exact ⟨fun h => ⟨fun j hj => hi.2 j (by omega), by omega, by omega⟩, fun h => by have := h.2.2; omega⟩
  · exact mayB_no fun hc => by have := hc.2.1; omega
instance c_pl_may {n : Int} {csA : Option Addr} {csc csn : Nat} {cs : List UInt64} {w0 : World} {X : Nat → Prop} {L : List Assn} [hcs : Rw w0 X L (.slice csA csn csc) RU cs] : Ctr Try.prog 29 [.int .u64 n, .slice csA csn csc] w0 X L (True) (fun _ : Unit => .bool (mayB n cs)) (fun _ : Unit => L) (fun _ : Unit => True) :=
  ctr' (M' := (fun _ : Unit => [])) (by kernel_rfl) (fun hp w hw => by have ecs := hcs.len hw; subst ecs; exact pl_may _ _ _ _ w (hcs.get w hw)) (by rintro hp e0 rfl ok; exact ⟨(), rfl, rfl, trivial⟩)
end Go.Proofs.Ytjiglibogmehfaa
