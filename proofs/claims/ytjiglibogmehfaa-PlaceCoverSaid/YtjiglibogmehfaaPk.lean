/-
  moneyerlaw15: the laws walked.
-/
import Derived.Test.YtjiglibogmehfaaPj
set_option linter.all false
set_option maxRecDepth 100000
set_option maxHeartbeats 4000000
namespace Go.Proofs.Ytjiglibogmehfaa
open Go.RowKit

theorem treesN5 : treesN 5 = [⟨2, 0⟩, ⟨0, 4⟩] := by
  have e5 : treesN ((5 : Nat) : Int) = trees 0 5 := treesN_eq (by omega)
  have h5 : Nat.log2 5 = 2 := by decide
  have h1 : Nat.log2 1 = 0 := by decide
  have := e5
  rw [trees_step (by omega), h5, trees_step (by decide), show 5 - 2 ^ 2 = 1 by decide, h1, show 1 - 2 ^ 0 = 0 by decide, trees_zero] at this
  exact this
theorem treesN4 : treesN 4 = [⟨2, 0⟩] := by
  have e5 : treesN ((4 : Nat) : Int) = trees 0 4 := treesN_eq (by omega)
  have h5 : Nat.log2 4 = 2 := by decide
  have := e5
  rw [trees_step (by omega), h5, show 4 - 2 ^ 2 = 0 by decide, trees_zero] at this
  exact this
theorem ways41 : waysK 4 [1] [] = [⟨0, 1⟩, ⟨1, 0⟩, ⟨2, 0⟩] := by
  have e : treeP 4 ((1 : UInt64).toNat : Int) = ⟨2, 0⟩ := (treeP_of (n := 4) (c := 1) (by omega) (p := ⟨2, 0⟩) (by show _ ∈ treesN 4; rw [treesN4]; simp) (by decide)).1
  unfold waysK
  rw [e]
  rfl
theorem may41 : mayB 4 [1] = true := by
  unfold mayB
  refine @decide_eq_true _ (_) ⟨fun j hj => ?_, by omega, by simp⟩
  obtain rfl : j = 0 := by simpa using hj
  exact ⟨by decide, fun h => by omega⟩
theorem may411 : mayB 4 [1, 1] = false := by
  unfold mayB
  refine @decide_eq_false _ (_) fun h => ?_
  have := (h.1 1 (by simp)).2 (by omega)
  revert this; decide
theorem needs41 : needsL 4 [1] = [⟨0, 0⟩, ⟨1, 1⟩] := by
  unfold needsL
  rw [if_pos may41, ways41, treesN4]
  have e : addK [⟨2, 0⟩] [⟨0, 1⟩, ⟨1, 0⟩, ⟨2, 0⟩] [⟨0, 1⟩, ⟨1, 0⟩, ⟨2, 0⟩] = [⟨0, 0⟩, ⟨1, 1⟩] := by kernel_rfl
  rw [e]
  exact sortP_id (by unfold Rising; simp; decide)
instance el_u64 : EL Try.prog 22 1 8 := ⟨by
  obtain ⟨i, h1, h2, h3, h4⟩ := info_parts (show (Try.prog.info? 22).map (fun i => (i.zero, i.size, i.bytes)) = some (some (.int .u64 0), 1, 8) by kernel_rfl)
  exact ⟨i, _, h1, h2, h3, h4, rfl, by decide⟩⟩
instance elmU1 : Elm RU (.int .u64 1) (1 : UInt64) := ⟨rfl⟩
theorem lives_facts : ((treesN 5).length = 2 ∧ (ixd (treesN 5) 0).row = 2 ∧ (ixd (treesN 5) 0).at_ = 0 ∧ (ixd (treesN 5) 1).row = 0 ∧ (ixd (treesN 5) 1).at_ = 4) ∧ (needsL 4 [1]).length = 2 ∧ (ixd (needsL 4 [1]) 1).row = 1 ∧ (ixd (needsL 4 [1]) 1).at_ = 1 ∧ waysE 4 [1] = 0 ∧ waysE 4 [1, 1] = 2 := by
  rw [treesN5, needs41, show waysE 4 [1] = 0 from if_pos may41, show waysE 4 [1, 1] = 2 from if_neg (by rw [may411]; decide)]
  exact ⟨⟨rfl, rfl, rfl, rfl, rfl⟩, rfl, rfl, rfl, rfl, rfl⟩
theorem law15_lives  (w0 : World)   :
    Ct Try.prog 13 [] w0 no (fun ((e0) : Bool) => .bool e0) (fun (e0) => []) (fun (e0) => e0 = true) := by
  have hst := St.start w0
  refine genter _ hst Try.func13 rfl rfl rfl rfl ?_
  obtain ⟨⟨a1, a2, a3, a4, a5⟩, b1, b2, b3, b4, b5⟩ := lives_facts
  repeat' (first
   | (refine kO ?_; first | refine gbs RU rfl rfl rfl rfl rfl rfl (fun _ => ?_) (fun _ => ?_) | refine gv rfl rfl ?_ | refine gnil ?_ | refine gl rfl (lvb rfl rfl) rfl (fun _ => ?_) | refine gl rfl (lvB rfl rfl rfl) rfl (fun _ => ?_) | refine gl rfl (lve rfl rfl) rfl (fun _ => ?_) | refine gl rfl (lvE rfl rfl rfl) rfl (fun _ => ?_) | refine gl rfl (lva rfl rfl rfl rfl rfl) rfl (fun _ => ?_) | refine gp rfl (by (try simp only [InR]); omega) rfl ?_ | refine gix rfl rfl rfl rfl (by omega) rfl (fun _ => ?_) | refine gixa rfl rfl rfl rfl (by omega) rfl (fun _ => ?_) | (refine kK ?_; first | refine gcall rfl ?_ rfl (fun _ _ => ?_) (fun _ _ => ?_) | refine gcv rfl rfl ?_ rfl (fun _ _ => ?_) (fun _ _ => ?_) | refine gcc1 rfl rfl ?_ rfl (fun _ _ => ?_) (fun _ _ => ?_)) | refine geql rfl rfl (by kernel_rfl) ?_ rfl ?_ | refine gbu rfl rfl rfl rfl rfl ?_ | refine gbs RB rfl rfl rfl rfl rfl rfl (fun _ => ?_) (fun _ => ?_) | refine gbb rfl rfl rfl (by first | (simp; done) | (simp only [and_true]; omega)) rfl rfl rfl rfl (fun _ => ?_) (fun _ => ?_) | (refine kg ?_; (first | refine guardT rfl rfl rfl rfl (fun h => ?_) (fun h => ?_) | refine guardF rfl rfl rfl rfl (fun h => ?_) (fun h => ?_) | refine guardU rfl rfl rfl rfl ?_ | refine guardTH rfl rfl rfl rfl ?_ (fun h => ?_) (fun h => ?_) | refine guardFH rfl rfl rfl rfl ?_ (fun h => ?_) (fun h => ?_) | refine guardUH rfl rfl rfl rfl ?_ ?_) <;> (first | exact h.elim | (exfalso; omega) | exact absurd h (by assumption) | exact absurd (by assumption) h | skip)))
   | (refine kC ?_; first | refine gseq ?_ | refine greg ?_ | refine gret ?_ | refine gskip ?_)
   | (refine kN ?_; first | refine gthen ?_)
   | (refine kR ?_; first | refine grs ?_ | refine grc ?_)
   | (refine kR ?_; refine gr rfl (rvT rfl rv0) (_) rfl Ent.nil ?_)
   | (refine Pre.mk ?_; first | exact True.intro | omega | ((repeat' (first | refine And.intro ?_ ?_ | exact True.intro | assumption | omega)); done) | (simp only [and_true, true_and, or_true, true_or]; first | done | omega))
   | (refine kD ?_; first | exact dm_none))
  all_goals grind
instance c_law15_lives  {w0 : World} {X : Nat → Prop} {L : List Assn}  : Ctr Try.prog 13 [] w0 X L (True) (fun _ : Unit => .bool (true)) (fun _ : Unit => L) (fun _ : Unit => True) :=
  ctr' (M' := (fun _ : Unit => [])) (by kernel_rfl) (fun hp w hw => by exact law15_lives  w) (by rintro hp e0 rfl ok; exact ⟨(), rfl, rfl, trivial⟩)
theorem law15_Trees (n : Int) (leaf : Int) (r : Int) (a : Int) (w0 : World)  (hp : (0 ≤ n ∧ n ≤ 18446744073709551615) ∧ (0 ≤ leaf ∧ leaf ≤ 18446744073709551615) ∧ (0 ≤ r ∧ r ≤ 255 ∧ 0 ≤ a ∧ a ≤ 18446744073709551615)) :
    Ct Try.prog 4 [.int .u64 n, .int .u64 leaf, Ag [.one (.int .u8 r), .one (.int .u64 a)]] w0 no (fun ((e0) : Bool) => .bool e0) (fun (e0) => []) (fun (e0) => e0 = true) := by
  have hst := St.start w0
  refine genter _ hst Try.func4 rfl rfl rfl rfl ?_
  have hto := treeP_ok n leaf
  repeat' (first
   | (refine kO ?_; first | refine gv rfl rfl ?_ | refine gnil ?_ | refine gnilD ?_ | refine gl rfl (lvb rfl rfl) rfl (fun _ => ?_) | refine gl rfl (lvB rfl rfl rfl) rfl (fun _ => ?_) | refine gl rfl (lve rfl rfl) rfl (fun _ => ?_) | refine gl rfl (lvE rfl rfl rfl) rfl (fun _ => ?_) | refine gl rfl (lva rfl rfl rfl rfl rfl) rfl (fun _ => ?_) | refine gp rfl (by (try simp only [InR]); omega) rfl ?_ | (refine kK ?_; first | refine gcall rfl ?_ rfl (fun _ _ => ?_) (fun _ _ => ?_) | refine gcv rfl rfl ?_ rfl (fun _ _ => ?_) (fun _ _ => ?_) | refine gcc1 rfl rfl ?_ rfl (fun _ _ => ?_) (fun _ _ => ?_)) | refine geql rfl rfl (by kernel_rfl) ?_ rfl ?_ | refine gx rfl rfl (fun _ => ?_) (fun _ => ?_) | refine ga rfl (fun _ => ?_) (fun _ => ?_) | refine gst rfl rfl rfl rfl ?_ ?_ | refine ge rfl rfl rfl rfl ?_ ?_ | refine gea rfl rfl rfl rfl rfl rfl rfl ?_ ?_ | (refine kg ?_; (first | refine guardT rfl rfl rfl rfl (fun h => ?_) (fun h => ?_) | refine guardF rfl rfl rfl rfl (fun h => ?_) (fun h => ?_) | refine guardU rfl rfl rfl rfl ?_ | refine guardTH rfl rfl rfl rfl ?_ (fun h => ?_) (fun h => ?_) | refine guardFH rfl rfl rfl rfl ?_ (fun h => ?_) (fun h => ?_) | refine guardUH rfl rfl rfl rfl ?_ ?_) <;> (first | exact h.elim | (exfalso; omega) | exact absurd h (by assumption) | exact absurd (by assumption) h | skip)))
   | (refine kC ?_; first | refine gseq ?_ | refine greg ?_ | refine gret ?_ | refine gskip ?_ | refine gdraw (id := 3) [0,2,1,3,4,5,6,7,8,9,10,11,12,13,14,15,16,17,19,20,18,21,22,23,24,25,26,27] (by kernel_rfl) (by kernel_rfl) rfl ?_)
   | (refine kN ?_; first | refine gthen ?_)
   | (refine kR ?_; first | refine grs ?_ | refine grc ?_)
   | (refine kR ?_; refine gr rfl (rvT rfl rv0) (_) rfl Ent.nil ?_)
   | exact Pre.mk ⟨treesN_pls n, treesN_pls n⟩
   | (refine Pre.mk ?_; first | exact True.intro | omega | ((repeat' (first | refine And.intro ?_ ?_ | exact True.intro | assumption | omega)); done) | (simp only [and_true, true_and, or_true, true_or]; first | done | omega))
   | (refine kD ?_; first | exact dm_none | exact dm0 | refine dmOff rfl ?_ | refine dmOn (lvb rfl rfl) ?_ | refine dmOn (lvB rfl rfl rfl) ?_ | refine dmOn (lve rfl rfl) ?_ | refine dmOn (lvE rfl rfl rfl) ?_ | refine dmOn (lva rfl rfl rfl rfl rfl) ?_))
  all_goals simp_all
instance c_law15_Trees {n : Int} {leaf : Int} {r : Int} {a : Int} {w0 : World} {X : Nat → Prop} {L : List Assn}  : Ctr Try.prog 4 [.int .u64 n, .int .u64 leaf, Ag [.one (.int .u8 r), .one (.int .u64 a)]] w0 X L ((0 ≤ n ∧ n ≤ 18446744073709551615) ∧ (0 ≤ leaf ∧ leaf ≤ 18446744073709551615) ∧ (0 ≤ r ∧ r ≤ 255 ∧ 0 ≤ a ∧ a ≤ 18446744073709551615)) (fun _ : Unit => .bool (true)) (fun _ : Unit => L) (fun _ : Unit => True) :=
  ctr' (M' := (fun _ : Unit => [])) (by kernel_rfl) (fun hp w hw => by exact law15_Trees _ _ _ _ w hp) (by rintro hp e0 rfl ok; exact ⟨(), rfl, rfl, trivial⟩)
theorem parent_b {p : PlG} (h : PlOk p) : PlOk (parentG p) := by
  obtain ⟨h1, h2, h3, h4⟩ := h
  unfold parentG PlOk
  simp only [IntKind.wrap_u8]; omega
theorem kidL_b {p : PlG} (h : PlOk p) : PlOk (kidL p) := by
  obtain ⟨h1, h2, h3, h4⟩ := h
  unfold kidL PlOk
  split
  · simp
  · simp only [IntKind.wrap_u64]; omega
theorem kidR_b {p : PlG} (h : PlOk p) : PlOk (kidR p) := by
  obtain ⟨h1, h2, h3, h4⟩ := h
  unfold kidR PlOk
  split
  · simp
  · simp only [IntKind.wrap_u64]; omega
theorem law15_Moves (r : Int) (a : Int) (r2 : Int) (a2 : Int) (w0 : World)  (hp : (0 ≤ r ∧ r ≤ 255 ∧ 0 ≤ a ∧ a ≤ 18446744073709551615) ∧ (0 ≤ r2 ∧ r2 ≤ 255 ∧ 0 ≤ a2 ∧ a2 ≤ 18446744073709551615)) :
    Ct Try.prog 5 [Ag [.one (.int .u8 r), .one (.int .u64 a)], Ag [.one (.int .u8 r2), .one (.int .u64 a2)]] w0 no (fun ((e0) : Bool) => .bool e0) (fun (e0) => []) (fun (e0) => e0 = true) := by
  have hst := St.start w0
  refine genter _ hst Try.func5 rfl rfl rfl rfl ?_
  have p1 := parent_b (p := ⟨r, a⟩) hp.1
  have p2 := neigh_b (p := ⟨r, a⟩) hp.1
  have p3 := kidL_b (p := ⟨r, a⟩) hp.1
  have p4 := kidR_b (p := ⟨r, a⟩) hp.1
  repeat' (first
   | (refine kO ?_; first | refine gv rfl rfl ?_ | refine gnil ?_ | refine gnilD ?_ | refine gl rfl (lvb rfl rfl) rfl (fun _ => ?_) | refine gl rfl (lvB rfl rfl rfl) rfl (fun _ => ?_) | refine gl rfl (lve rfl rfl) rfl (fun _ => ?_) | refine gl rfl (lvE rfl rfl rfl) rfl (fun _ => ?_) | refine gl rfl (lva rfl rfl rfl rfl rfl) rfl (fun _ => ?_) | refine gp rfl (by (try simp only [InR]); omega) rfl ?_ | (refine kK ?_; first | refine gcall rfl ?_ rfl (fun _ _ => ?_) (fun _ _ => ?_) | refine gcv rfl rfl ?_ rfl (fun _ _ => ?_) (fun _ _ => ?_) | refine gcc1 rfl rfl ?_ rfl (fun _ _ => ?_) (fun _ _ => ?_)) | refine geql rfl rfl (by kernel_rfl) ?_ rfl ?_ | refine gx rfl rfl (fun _ => ?_) (fun _ => ?_) | refine ga rfl (fun _ => ?_) (fun _ => ?_) | refine gst rfl rfl rfl rfl ?_ ?_ | refine ge rfl rfl rfl rfl ?_ ?_ | refine gea rfl rfl rfl rfl rfl rfl rfl ?_ ?_ | (refine kg ?_; (first | refine guardT rfl rfl rfl rfl (fun h => ?_) (fun h => ?_) | refine guardF rfl rfl rfl rfl (fun h => ?_) (fun h => ?_) | refine guardU rfl rfl rfl rfl ?_ | refine guardTH rfl rfl rfl rfl ?_ (fun h => ?_) (fun h => ?_) | refine guardFH rfl rfl rfl rfl ?_ (fun h => ?_) (fun h => ?_) | refine guardUH rfl rfl rfl rfl ?_ ?_) <;> (first | exact h.elim | (exfalso; omega) | exact absurd h (by assumption) | exact absurd (by assumption) h | skip)))
   | (refine kC ?_; first | refine gseq ?_ | refine greg ?_ | refine gret ?_ | refine gskip ?_ | refine gdraw (id := 3) [0,2,1,3,4,5,6,8,7,9,10,11,12,13,14,15,16,17,18,19,20,21,22,23,24,26,27,25,28,29,30,31,32,33,34] (by kernel_rfl) (by kernel_rfl) rfl ?_)
   | (refine kN ?_; first | refine gthen ?_)
   | (refine kR ?_; first | refine grs ?_ | refine grc ?_)
   | (refine kR ?_; refine gr rfl (rvT rfl rv0) (_) rfl Ent.nil ?_)
   | exact Pre.mk ⟨p1, p1⟩
   | exact Pre.mk ⟨p2, p2⟩
   | exact Pre.mk ⟨p3, p3⟩
   | exact Pre.mk ⟨p4, p4⟩
   | (refine Pre.mk ?_; first | exact True.intro | omega | ((repeat' (first | refine And.intro ?_ ?_ | exact True.intro | assumption | omega)); done) | (simp only [and_true, true_and, or_true, true_or]; first | done | omega))
   | (refine kD ?_; first | exact dm_none | exact dm0 | refine dmOff rfl ?_ | refine dmOn (lvb rfl rfl) ?_ | refine dmOn (lvB rfl rfl rfl) ?_ | refine dmOn (lve rfl rfl) ?_ | refine dmOn (lvE rfl rfl rfl) ?_ | refine dmOn (lva rfl rfl rfl rfl rfl) ?_))
  all_goals simp_all
instance c_law15_Moves {r : Int} {a : Int} {r2 : Int} {a2 : Int} {w0 : World} {X : Nat → Prop} {L : List Assn}  : Ctr Try.prog 5 [Ag [.one (.int .u8 r), .one (.int .u64 a)], Ag [.one (.int .u8 r2), .one (.int .u64 a2)]] w0 X L ((0 ≤ r ∧ r ≤ 255 ∧ 0 ≤ a ∧ a ≤ 18446744073709551615) ∧ (0 ≤ r2 ∧ r2 ≤ 255 ∧ 0 ≤ a2 ∧ a2 ≤ 18446744073709551615)) (fun _ : Unit => .bool (true)) (fun _ : Unit => L) (fun _ : Unit => True) :=
  ctr' (M' := (fun _ : Unit => [])) (by kernel_rfl) (fun hp w hw => by exact law15_Moves _ _ _ _ w hp) (by rintro hp e0 rfl ok; exact ⟨(), rfl, rfl, trivial⟩)
theorem needsL_pls {n : Int} {cs : List UInt64} (hn : 0 ≤ n) : Pls (needsL n cs) := fun p hp => by
  unfold needsL at hp
  split at hp
  · rename_i h
    rw [(sortP_perm _).mem_iff] at hp
    unfold addK at hp
    rw [addK_mem] at hp
    rcases hp with hp | ⟨q, h1, rfl, _⟩
    · cases hp
    · exact neigh_b (waysL_pls hn q ((waysL_mem h q).2 h1))
  · cases hp
theorem law15_Needs (n : Int) (csA : Option Addr) (csc : Nat) (cs : List UInt64) (w0 : World) (hcs : Slr w0 RU (.slice csA cs.length csc) cs) (hp : 0 ≤ n) :
    Ct Try.prog 3 [.int .u64 n, .slice csA cs.length csc] w0 no (fun ((e0) : Bool) => .bool e0) (fun (e0) => []) (fun (e0) => e0 = true) := by
  have hst := St.start w0
  have i_cs := Rw.old hcs
  refine genter _ hst Try.func3 rfl rfl rfl rfl ?_
  have p1 := waysL_pls (cs := cs) hp
  have p2 := needsL_pls (cs := cs) hp
  repeat' (first
   | (refine kO ?_; first | refine gv rfl rfl ?_ | refine gnil ?_ | refine gp rfl (by (try simp only [InR]); omega) rfl ?_ | (refine kK ?_; first | refine gcall rfl ?_ rfl (fun _ _ => ?_) (fun _ _ => ?_) | refine gcv rfl rfl ?_ rfl (fun _ _ => ?_) (fun _ _ => ?_) | refine gcc1 rfl rfl ?_ rfl (fun _ _ => ?_) (fun _ _ => ?_)) | refine geql rfl rfl (by kernel_rfl) ?_ rfl ?_ | (refine kg ?_; (first | refine guardT rfl rfl rfl rfl (fun h => ?_) (fun h => ?_) | refine guardF rfl rfl rfl rfl (fun h => ?_) (fun h => ?_) | refine guardU rfl rfl rfl rfl ?_ | refine guardTH rfl rfl rfl rfl ?_ (fun h => ?_) (fun h => ?_) | refine guardFH rfl rfl rfl rfl ?_ (fun h => ?_) (fun h => ?_) | refine guardUH rfl rfl rfl rfl ?_ ?_) <;> (first | exact h.elim | (exfalso; omega) | exact absurd h (by assumption) | exact absurd (by assumption) h | skip)))
   | (refine kC ?_; first | refine gseq ?_ | refine greg ?_ | refine gret ?_ | refine gskip ?_)
   | (refine kN ?_; first | refine gthen ?_)
   | (refine kR ?_; first | refine grs ?_ | refine grc ?_)
   | (refine kR ?_; refine gr rfl (rvT rfl rv0) (_) rfl Ent.nil ?_)
   | exact Pre.mk ⟨p1, p1⟩
   | exact Pre.mk ⟨p2, p2⟩
   | (refine Pre.mk ?_; first | exact True.intro | omega | ((repeat' (first | refine And.intro ?_ ?_ | exact True.intro | assumption | omega)); done) | (simp only [and_true, true_and, or_true, true_or]; first | done | omega))
   | (refine kD ?_; first | exact dm_none))
  all_goals simp_all
instance c_law15_Needs {n : Int} {csA : Option Addr} {csc csn : Nat} {cs : List UInt64} {w0 : World} {X : Nat → Prop} {L : List Assn} [hcs : Rw w0 X L (.slice csA csn csc) RU cs] : Ctr Try.prog 3 [.int .u64 n, .slice csA csn csc] w0 X L (0 ≤ n) (fun _ : Unit => .bool (true)) (fun _ : Unit => L) (fun _ : Unit => True) :=
  ctr' (M' := (fun _ : Unit => [])) (by kernel_rfl) (fun hp w hw => by have ecs := hcs.len hw; subst ecs; exact law15_Needs _ _ _ _ w (hcs.get w hw) hp) (by rintro hp e0 rfl ok; exact ⟨(), rfl, rfl, trivial⟩)
theorem law15_Cover (n : Int) (w0 : World)  (hp : 0 ≤ n ∧ n ≤ 4294967295) :
    Ct Try.prog 6 [.int .u32 n] w0 no (fun ((e0) : Bool) => .bool e0) (fun (e0) => []) (fun (e0) => e0 = true) := by
  have hst := St.start w0
  refine genter _ hst Try.func6 rfl rfl rfl rfl ?_
  obtain ⟨K, hK⟩ : ∃ K : Nat, n % 1048577 = K := ⟨(n % 1048577).toNat, by omega⟩
  have hK1 : K ≤ 1048576 := by omega
  repeat' (first
   | (refine kO ?_; first | refine gv rfl rfl ?_ | refine gnil ?_ | refine gnilD ?_ | refine gl rfl (lvb rfl rfl) rfl (fun _ => ?_) | refine gl rfl (lvB rfl rfl rfl) rfl (fun _ => ?_) | refine gl rfl (lve rfl rfl) rfl (fun _ => ?_) | refine gl rfl (lvE rfl rfl rfl) rfl (fun _ => ?_) | refine gl rfl (lva rfl rfl rfl rfl rfl) rfl (fun _ => ?_) | refine gp rfl (by (try simp only [InR]); omega) rfl ?_ | refine gsh rfl (by (try simp only [InR]); omega) rfl ?_ | refine gsv rfl (by (try simp only [InR, InSh]); omega) rfl ?_ | refine gf rfl rfl rfl ?_ | refine gix rfl rfl rfl rfl (by omega) rfl (fun _ => ?_) | refine gixa rfl rfl rfl rfl (by omega) rfl (fun _ => ?_) | (refine kK ?_; first | refine gcall rfl ?_ rfl (fun _ _ => ?_) (fun _ _ => ?_) | refine gcv rfl rfl ?_ rfl (fun _ _ => ?_) (fun _ _ => ?_) | refine gcc1 rfl rfl ?_ rfl (fun _ _ => ?_) (fun _ _ => ?_)) | refine geql rfl rfl (by kernel_rfl) ?_ rfl ?_ | refine gneq rfl rfl (by kernel_rfl) ?_ rfl ?_ | refine gb rfl rfl rfl rfl ?_ | refine gw rfl rfl ?_ | (refine kg ?_; (first | refine guardT rfl rfl rfl rfl (fun h => ?_) (fun h => ?_) | refine guardF rfl rfl rfl rfl (fun h => ?_) (fun h => ?_) | refine guardU rfl rfl rfl rfl ?_ | refine guardTH rfl rfl rfl rfl ?_ (fun h => ?_) (fun h => ?_) | refine guardFH rfl rfl rfl rfl ?_ (fun h => ?_) (fun h => ?_) | refine guardUH rfl rfl rfl rfl ?_ ?_) <;> (first | exact h.elim | (exfalso; omega) | exact absurd h (by assumption) | exact absurd (by assumption) h | skip)))
   | (refine kC ?_; first | refine gseq ?_ | refine greg ?_ | refine gret ?_ | refine gskip ?_ | refine gdraw (id := 7) [0,1,2,3,4,5,6,7,8,9,10,11,12,13,14,15,16,17,18,19,20,21,22,23,24,25,26,27,28,29,30,31,32,33,34,35,36,37,38] (by kernel_rfl) (by kernel_rfl) rfl ?_ | (refine gcond rfl (fun h => ?_) (fun h => ?_) <;> (first | exact h.elim | (exfalso; omega) | exact absurd h (by assumption) | exact absurd (by assumption) h | skip)) | refine gblk ?_ | refine gexit ?_)
   | (refine kN ?_; first | refine gthen ?_ | refine gnblk ?_)
   | (refine kR ?_; first | refine grs ?_ | refine grb ?_ | refine grl ?_ | refine grc ?_)
   | (refine kX ?_; first | refine gxs ?_ | refine gxb ?_ | refine gxn rfl ?_ | refine gxl ?_ | refine gxc ?_)
   | (refine kR ?_; refine gr rfl (rvT rfl rv0) (_) rfl Ent.nil ?_)
   | (refine Pre.mk ?_; first | exact True.intro | omega | ((repeat' (first | refine And.intro ?_ ?_ | exact True.intro | assumption | omega)); done) | (simp only [and_true, true_and, or_true, true_or]; first | done | omega))
   | (refine kD ?_; first | exact dm_none | exact dm0 | refine dmOff rfl ?_ | refine dmOn (lvb rfl rfl) ?_ | refine dmOn (lvB rfl rfl rfl) ?_ | refine dmOn (lve rfl rfl) ?_ | refine dmOn (lvE rfl rfl rfl) ?_ | refine dmOn (lva rfl rfl rfl rfl rfl) ?_))
  rename_i s4 _
  simp only [hK, treesN_eq hK1]
  have hlen := trees_len K 0
  refine gloop2 [3, 4] (fun (i f : Nat) K => (5, .int .u64 f) :: (6, .int .i64 i) :: K) (fun i f => [rw_ 32 RPl s4 (trees 0 K).length (trees 0 K)]) (fun i f => i ≤ (trees 0 K).length ∧ f ≤ K ∧ (trees 0 K).drop i = trees f (K - f) ∧ ∃ j, K - f < 2 ^ j ∧ 2 ^ j ∣ f) (fun i f => (trees 0 K).length - i) 0 0 rfl (by repeat (first | exact trivial | refine ⟨rfl, ?_⟩)) (er Ent.nil) ⟨by omega, by omega, rfl, 21, by omega, Nat.dvd_zero _⟩ (fun i f hi => ?_)
  obtain ⟨i0, i1, i2, i3⟩ := hi
  by_cases hf : f < K
  · obtain ⟨r, c1, c2, c3, c4, c5, c6, c7⟩ := cover_next hK1 i2 hf i3
    have hm : ixd (trees 0 K) (i : Int) ∈ treesN K := by rw [treesN_eq hK1, ixd_eq (by omega)]; exact List.getElem_mem _
    obtain ⟨s1, s2⟩ := cover_stands hK1 hm
    have hrow : (ixd (trees 0 K) (i : Int)).row = r := by rw [c2]
    have hat : (ixd (trees 0 K) (i : Int)).at_ = ((f / 2 ^ r : Nat) : Int) := by rw [c2]
    have hat2 : f / 2 ^ r ≤ f := Nat.div_le_self _ _
    have hat0 : 0 ≤ (ixd (trees 0 K) (i : Int)).at_ := by rw [hat]; exact Int.natCast_nonneg _
    have hat1 : (ixd (trees 0 K) (i : Int)).at_ ≤ f := by rw [hat]; exact Int.ofNat_le.2 hat2
    have hpw := Nat.pow_le_pow_right (n := 2) (by omega) c3
    have hsh : (ixd (trees 0 K) (i : Int)).at_ * 2 ^ (ixd (trees 0 K) (i : Int)).row.toNat = f := by
      rw [hat, hrow, Int.toNat_natCast]
      have := Nat.div_mul_cancel c4
      have e : (((f / 2 ^ r : Nat) : Int) * 2 ^ r) = ((f / 2 ^ r * 2 ^ r : Nat) : Int) := by simp
      rw [e, this]
    have hp1 : PlOk (ixd (trees 0 K) (i : Int)) := ⟨by omega, by omega, by omega, by omega⟩
    have hp2 := parent_b hp1
    have hq : (2 : Int) ^ (ixd (trees 0 K) (i : Int)).row.toNat = ((2 ^ r : Nat) : Int) := by rw [hrow]; simp
    have hq0 := Nat.two_pow_pos r
    repeat' (first
     | (refine kO ?_; first | refine gv rfl rfl ?_ | refine gnil ?_ | refine gnilD ?_ | refine gl rfl (lvb rfl rfl) rfl (fun _ => ?_) | refine gl rfl (lvB rfl rfl rfl) rfl (fun _ => ?_) | refine gl rfl (lve rfl rfl) rfl (fun _ => ?_) | refine gl rfl (lvE rfl rfl rfl) rfl (fun _ => ?_) | refine gl rfl (lva rfl rfl rfl rfl rfl) rfl (fun _ => ?_) | refine gp rfl (by (try simp only [InR]); omega) rfl ?_ | refine gsh rfl (by (try simp only [InR]); omega) rfl ?_ | refine gsv rfl (by (try simp only [InR, InSh]); omega) rfl ?_ | refine gf rfl rfl rfl ?_ | refine gix rfl rfl rfl rfl (by omega) rfl (fun _ => ?_) | refine gixa rfl rfl rfl rfl (by omega) rfl (fun _ => ?_) | (refine kK ?_; first | refine gcall rfl ?_ rfl (fun _ _ => ?_) (fun _ _ => ?_) | refine gcv rfl rfl ?_ rfl (fun _ _ => ?_) (fun _ _ => ?_) | refine gcc1 rfl rfl ?_ rfl (fun _ _ => ?_) (fun _ _ => ?_)) | refine geql rfl rfl (by kernel_rfl) ?_ rfl ?_ | refine gneq rfl rfl (by kernel_rfl) ?_ rfl ?_ | refine gb rfl rfl rfl rfl ?_ | refine gw rfl rfl ?_ | (refine kg ?_; (first | refine guardT rfl rfl rfl rfl (fun h => ?_) (fun h => ?_) | refine guardF rfl rfl rfl rfl (fun h => ?_) (fun h => ?_) | refine guardU rfl rfl rfl rfl ?_ | refine guardTH rfl rfl rfl rfl ?_ (fun h => ?_) (fun h => ?_) | refine guardFH rfl rfl rfl rfl ?_ (fun h => ?_) (fun h => ?_) | refine guardUH rfl rfl rfl rfl ?_ ?_) <;> (first | exact h.elim | (exfalso; omega) | exact absurd h (by assumption) | exact absurd (by assumption) h | skip)))
     | (refine kC ?_; first | refine gseq ?_ | refine greg ?_ | refine gret ?_ | refine gskip ?_ | refine gdraw (id := 7) [0,1,2,3,4,5,6,7,8,9,10,11,12,13,14,15,16,17,18,19,20,21,22,23,24,25,26,27,28,29,30,31,32,33,34,35,36,37,38] (by kernel_rfl) (by kernel_rfl) rfl ?_ | (refine gcond rfl (fun h => ?_) (fun h => ?_) <;> (first | exact h.elim | (exfalso; omega) | exact absurd h (by assumption) | exact absurd (by assumption) h | skip)) | refine gblk ?_ | refine gexit ?_)
     | (refine kN ?_; first | refine gthen ?_ | refine gnblk ?_)
     | (refine kR ?_; first | refine grs ?_ | refine grb ?_ | refine grl ?_ | refine grc ?_)
     | (refine kX ?_; first | refine gxs ?_ | refine gxb ?_ | refine gxn rfl ?_ | refine gxl ?_ | refine gxc ?_)
     | (refine kR ?_; refine gr rfl (rvT rfl rv0) (_) rfl Ent.nil ?_)
     | exact Pre.mk ⟨by omega, hp1⟩
     | exact Pre.mk ⟨by omega, hp2⟩
     | (refine Pre.mk ?_; first | exact True.intro | omega | ((repeat' (first | refine And.intro ?_ ?_ | exact True.intro | assumption | omega)); done) | (simp only [and_true, true_and, or_true, true_or]; first | done | omega))
     | (refine kD ?_; first | exact dm_none | exact dm0 | refine dmOff rfl ?_ | refine dmOn (lvb rfl rfl) ?_ | refine dmOn (lvB rfl rfl rfl) ?_ | refine dmOn (lve rfl rfl) ?_ | refine dmOn (lvE rfl rfl rfl) ?_ | refine dmOn (lva rfl rfl rfl rfl rfl) ?_))
    · exact absurd (s2.symm.trans h) (by decide)
    · simp only [Int.one_mul, hq, ← Int.natCast_add]
      exact gnl2 (i + 1) (f + 2 ^ r) (by repeat (first | exact trivial | refine ⟨rfl, ?_⟩)) (er Ent.nil) ⟨by omega, c5, c6, c7⟩ (by omega)
    · exact absurd ((show standsB (K : Int) (ixd (trees 0 K) (i : Int)) = false by assumption).symm.trans s1) (by decide)
  · obtain rfl : f = K := by omega
    have hli : (trees 0 f).length ≤ i := by rw [Nat.sub_self, trees_zero] at i2; simpa using i2
    repeat' (first
     | (refine kO ?_; first | refine gv rfl rfl ?_ | refine gnil ?_ | refine gnilD ?_ | refine gl rfl (lvb rfl rfl) rfl (fun _ => ?_) | refine gl rfl (lvB rfl rfl rfl) rfl (fun _ => ?_) | refine gl rfl (lve rfl rfl) rfl (fun _ => ?_) | refine gl rfl (lvE rfl rfl rfl) rfl (fun _ => ?_) | refine gl rfl (lva rfl rfl rfl rfl rfl) rfl (fun _ => ?_) | refine gp rfl (by (try simp only [InR]); omega) rfl ?_ | refine gsh rfl (by (try simp only [InR]); omega) rfl ?_ | refine gsv rfl (by (try simp only [InR, InSh]); omega) rfl ?_ | refine gf rfl rfl rfl ?_ | refine gix rfl rfl rfl rfl (by omega) rfl (fun _ => ?_) | refine gixa rfl rfl rfl rfl (by omega) rfl (fun _ => ?_) | (refine kK ?_; first | refine gcall rfl ?_ rfl (fun _ _ => ?_) (fun _ _ => ?_) | refine gcv rfl rfl ?_ rfl (fun _ _ => ?_) (fun _ _ => ?_) | refine gcc1 rfl rfl ?_ rfl (fun _ _ => ?_) (fun _ _ => ?_)) | refine geql rfl rfl (by kernel_rfl) ?_ rfl ?_ | refine gneq rfl rfl (by kernel_rfl) ?_ rfl ?_ | refine gb rfl rfl rfl rfl ?_ | refine gw rfl rfl ?_ | (refine kg ?_; (first | refine guardT rfl rfl rfl rfl (fun h => ?_) (fun h => ?_) | refine guardF rfl rfl rfl rfl (fun h => ?_) (fun h => ?_) | refine guardU rfl rfl rfl rfl ?_ | refine guardTH rfl rfl rfl rfl ?_ (fun h => ?_) (fun h => ?_) | refine guardFH rfl rfl rfl rfl ?_ (fun h => ?_) (fun h => ?_) | refine guardUH rfl rfl rfl rfl ?_ ?_) <;> (first | exact h.elim | (exfalso; omega) | exact absurd h (by assumption) | exact absurd (by assumption) h | skip)))
     | (refine kC ?_; first | refine gseq ?_ | refine greg ?_ | refine gret ?_ | refine gskip ?_ | refine gdraw (id := 7) [0,1,2,3,4,5,6,7,8,9,10,11,12,13,14,15,16,17,18,19,20,21,22,23,24,25,26,27,28,29,30,31,32,33,34,35,36,37,38] (by kernel_rfl) (by kernel_rfl) rfl ?_ | (refine gcond rfl (fun h => ?_) (fun h => ?_) <;> (first | exact h.elim | (exfalso; omega) | exact absurd h (by assumption) | exact absurd (by assumption) h | skip)) | refine gblk ?_ | refine gexit ?_)
     | (refine kN ?_; first | refine gthen ?_ | refine gnblk ?_)
     | (refine kR ?_; first | refine grs ?_ | refine grb ?_ | refine grl ?_ | refine grc ?_)
     | (refine kX ?_; first | refine gxs ?_ | refine gxb ?_ | refine gxn rfl ?_ | refine gxl ?_ | refine gxc ?_)
     | (refine kR ?_; refine gr rfl (rvT rfl rv0) (_) rfl Ent.nil ?_)
     | (refine Pre.mk ?_; first | exact True.intro | omega | ((repeat' (first | refine And.intro ?_ ?_ | exact True.intro | assumption | omega)); done) | (simp only [and_true, true_and, or_true, true_or]; first | done | omega))
     | (refine kD ?_; first | exact dm_none | exact dm0 | refine dmOff rfl ?_ | refine dmOn (lvb rfl rfl) ?_ | refine dmOn (lvB rfl rfl rfl) ?_ | refine dmOn (lve rfl rfl) ?_ | refine dmOn (lvE rfl rfl rfl) ?_ | refine dmOn (lva rfl rfl rfl rfl rfl) ?_))
    all_goals rfl
instance c_law15_Cover {n : Int} {w0 : World} {X : Nat → Prop} {L : List Assn}  : Ctr Try.prog 6 [.int .u32 n] w0 X L (0 ≤ n ∧ n ≤ 4294967295) (fun _ : Unit => .bool (true)) (fun _ : Unit => L) (fun _ : Unit => True) :=
  ctr' (M' := (fun _ : Unit => [])) (by kernel_rfl) (fun hp w hw => by exact law15_Cover _ w hp) (by rintro hp e0 rfl ok; exact ⟨(), rfl, rfl, trivial⟩)
theorem waysL_no {n : Int} {cs : List UInt64} (h : ¬ mayB n cs = true) : waysL n cs = [] ∧ needsL n cs = [] ∧ waysE n cs = 2 := ⟨if_neg h, if_neg h, if_neg h⟩
theorem needsL_mem {n : Int} {cs : List UInt64} (h : mayB n cs = true) (q : PlG) : q ∈ needsL n cs ↔ q ∈ addK (treesN n) (waysK n cs []) (waysK n cs []) := by
  unfold needsL; rw [if_pos h]; exact (sortP_perm _).mem_iff
theorem needsL_len {n : Int} {cs : List UInt64} : (needsL n cs).length ≤ 5376 := by
  unfold needsL
  split
  · rename_i h
    rw [sortP_len]
    have h1 := waysK_len n cs []; have h2 := (mayB_len h).1
    have h3 := addK_len (own := treesN n) (ks := waysK n cs []) (done := waysK n cs []) (acc := [])
    unfold addK; simp at *; omega
  · simp
theorem kids_law {n : Int} {cs : List UInt64} (hn : 0 ≤ n) (h : mayB n cs = true) {w : PlG} (hw : w ∈ waysL n cs) (h0 : w.row ≠ 0) (q : PlG) (hq : q = kidL w ∨ q = kidR w) : q ∈ waysL n cs ∨ q ∈ needsL n cs := by
  have hl := mayC_lt h
  have hN := mayB_len h
  obtain ⟨N, rfl⟩ := Int.eq_ofNat_of_zero_le hn
  rw [waysL_mem h, needsL_mem h]
  exact enough_kids (by omega) (fun c hc => by have := hl c hc; omega) ((waysL_mem h w).1 hw) h0 q hq
theorem needs_law {n : Int} {cs : List UInt64} (hn : 0 ≤ n) (h : mayB n cs = true) {q : PlG} (hq : q ∈ needsL n cs) : standsB n q = true ∧ q ∉ waysL n cs ∧ q ∉ treesN n := by
  have hl := mayC_lt h
  have hN := mayB_len h
  obtain ⟨N, rfl⟩ := Int.eq_ofNat_of_zero_le hn
  rw [waysL_mem h]
  exact need_law (by omega) (fun c hc => by have := hl c hc; omega) ((needsL_mem h q).1 hq)
theorem needs_less {n : Int} {cs : List UInt64} {i : Nat} (h : i + 1 < (needsL n cs).length) : cmpP (ixd (needsL n cs) (i : Int)) (ixd (needsL n cs) ((i + 1 : Nat) : Int)) < 0 := by
  have hr : Rising (needsL n cs) := by
    unfold needsL
    split
    · exact sortP_rising (addK_nodup List.nodup_nil)
    · simp [Rising]
  rw [ixd_eq (by omega), ixd_eq (by omega)]
  exact List.pairwise_iff_getElem.1 hr _ _ _ _ (by omega)
theorem ixd_memP {l : List PlG} {i : Int} (h : 0 ≤ i ∧ i < l.length) : ixd l i ∈ l := by rw [ixd_eq (by omega)]; exact List.getElem_mem _
theorem ways_nil {n : Int} : waysL n [] = [] := by
  unfold waysL; split
  · show sortP [] = []; exact sortP_id (by simp [Rising])
  · rfl
theorem law15_Enough (n : Int) (csA : Option Addr) (csc : Nat) (cs : List UInt64) (w0 : World) (hcs : Slr w0 RU (.slice csA cs.length csc) cs) (hp : 0 ≤ n) :
    Ct Try.prog 7 [.int .u64 n, .slice csA cs.length csc] w0 no (fun ((e0) : Bool) => .bool e0) (fun (e0) => []) (fun (e0) => e0 = true) := by
  have hst := St.start w0
  have i_cs := Rw.old hcs
  refine genter _ hst Try.func7 rfl rfl rfl rfl ?_
  have p1 := waysL_pls (cs := cs) hp
  have p2 := needsL_pls (cs := cs) hp
  have l1 := waysL_len (n := n) (cs := cs)
  have l2 := needsL_len (n := n) (cs := cs)
  have l3 := treesN_len n
  by_cases hb : mayB n cs = true
  · have hE : waysE n cs = 0 := if_pos hb
    repeat' (first
     | (refine kO ?_; first | refine gv rfl rfl ?_ | refine gnil ?_ | refine gnilD ?_ | refine gl rfl (lvb rfl rfl) rfl (fun _ => ?_) | refine gl rfl (lvB rfl rfl rfl) rfl (fun _ => ?_) | refine gl rfl (lve rfl rfl) rfl (fun _ => ?_) | refine gl rfl (lvE rfl rfl rfl) rfl (fun _ => ?_) | refine gl rfl (lva rfl rfl rfl rfl rfl) rfl (fun _ => ?_) | refine gp rfl (by (try simp only [InR]); omega) rfl ?_ | refine gf rfl rfl rfl ?_ | refine gix rfl rfl rfl rfl (by omega) rfl (fun _ => ?_) | refine gixa rfl rfl rfl rfl (by omega) rfl (fun _ => ?_) | (refine kK ?_; first | refine gcall rfl ?_ rfl (fun _ _ => ?_) (fun _ _ => ?_) | refine gcv rfl rfl ?_ rfl (fun _ _ => ?_) (fun _ _ => ?_) | refine gcc1 rfl rfl ?_ rfl (fun _ _ => ?_) (fun _ _ => ?_)) | refine geql rfl rfl (by kernel_rfl) ?_ rfl ?_ | refine gneq rfl rfl (by kernel_rfl) ?_ rfl ?_ | refine ga rfl (fun _ => ?_) (fun _ => ?_) | refine gst rfl rfl rfl rfl ?_ ?_ | refine ge rfl rfl rfl rfl ?_ ?_ | refine gea rfl rfl rfl rfl rfl rfl rfl ?_ ?_ | refine gw rfl rfl ?_ | (refine kg ?_; (first | refine guardT rfl rfl rfl rfl (fun h => ?_) (fun h => ?_) | refine guardF rfl rfl rfl rfl (fun h => ?_) (fun h => ?_) | refine guardU rfl rfl rfl rfl ?_ | refine guardTH rfl rfl rfl rfl ?_ (fun h => ?_) (fun h => ?_) | refine guardFH rfl rfl rfl rfl ?_ (fun h => ?_) (fun h => ?_) | refine guardUH rfl rfl rfl rfl ?_ ?_) <;> (first | exact h.elim | (exfalso; omega) | exact absurd h (by assumption) | exact absurd (by assumption) h | skip)))
     | (refine kC ?_; first | refine gseq ?_ | refine greg ?_ | refine gret ?_ | refine gskip ?_ | refine gdraw (id := 16) [0,1,2,3,4,5,6,7,8,9,10,11,12,13,14,15,16,17,18,19,20,21,22,23,24,25,26,27,28,29,30,31,32,33,34,35,36,37,38,39] (by kernel_rfl) (by kernel_rfl) rfl ?_ | (refine gcond rfl (fun h => ?_) (fun h => ?_) <;> (first | exact h.elim | (exfalso; omega) | exact absurd h (by assumption) | exact absurd (by assumption) h | skip)) | refine gblk ?_ | refine gexit ?_)
     | (refine kN ?_; first | refine gthen ?_ | refine gnblk ?_)
     | (refine kR ?_; first | refine grs ?_ | refine grb ?_ | refine grl ?_ | refine grc ?_)
     | (refine kX ?_; first | refine gxs ?_ | refine gxb ?_ | refine gxn rfl ?_ | refine gxl ?_ | refine gxc ?_)
     | (refine kR ?_; refine gr rfl (rvT rfl rv0) (_) rfl Ent.nil ?_)
     | (refine Pre.mk ?_; first | exact True.intro | omega | ((repeat' (first | refine And.intro ?_ ?_ | exact True.intro | assumption | omega)); done) | (simp only [and_true, true_and, or_true, true_or]; first | done | omega))
     | (refine kD ?_; first | exact dm_none | exact dm0 | refine dmOff rfl ?_ | refine dmOn (lvb rfl rfl) ?_ | refine dmOn (lvB rfl rfl rfl) ?_ | refine dmOn (lve rfl rfl) ?_ | refine dmOn (lvE rfl rfl rfl) ?_ | refine dmOn (lva rfl rfl rfl rfl rfl) ?_))
    rename_i sw _ sl _
    refine gloopc [0, 1, 5, 7, 8] (fun (i : Nat) K => (9, .int .i64 i) :: K) (fun i => i ≤ (waysL n cs).length) (fun i => (waysL n cs).length - i) 0 rfl (by repeat (first | exact trivial | refine ⟨rfl, ?_⟩)) (by simp) (fun i hi => ?_)
    have hto := fun h => p1.at (i := (i : Int)) ⟨by omega, h⟩
    have hk1 := fun h => kidL_b (hto h)
    have hk2 := fun h => kidR_b (hto h)
    have kl := fun h h0 q hq => kids_law hp hb (ixd_memP (l := waysL n cs) (i := (i : Int)) ⟨by omega, h⟩) h0 q hq
    repeat' (first
     | (refine kO ?_; first | refine gv rfl rfl ?_ | refine gnil ?_ | refine gnilD ?_ | refine gl rfl (lvb rfl rfl) rfl (fun _ => ?_) | refine gl rfl (lvB rfl rfl rfl) rfl (fun _ => ?_) | refine gl rfl (lve rfl rfl) rfl (fun _ => ?_) | refine gl rfl (lvE rfl rfl rfl) rfl (fun _ => ?_) | refine gl rfl (lva rfl rfl rfl rfl rfl) rfl (fun _ => ?_) | refine gp rfl (by (try simp only [InR]); omega) rfl ?_ | refine gf rfl rfl rfl ?_ | refine gix rfl rfl rfl rfl (by omega) rfl (fun _ => ?_) | refine gixa rfl rfl rfl rfl (by omega) rfl (fun _ => ?_) | (refine kK ?_; first | refine gcall rfl ?_ rfl (fun _ _ => ?_) (fun _ _ => ?_) | refine gcv rfl rfl ?_ rfl (fun _ _ => ?_) (fun _ _ => ?_) | refine gcc1 rfl rfl ?_ rfl (fun _ _ => ?_) (fun _ _ => ?_)) | refine geql rfl rfl (by kernel_rfl) ?_ rfl ?_ | refine gneq rfl rfl (by kernel_rfl) ?_ rfl ?_ | refine ga rfl (fun _ => ?_) (fun _ => ?_) | refine gst rfl rfl rfl rfl ?_ ?_ | refine ge rfl rfl rfl rfl ?_ ?_ | refine gea rfl rfl rfl rfl rfl rfl rfl ?_ ?_ | refine gw rfl rfl ?_ | (refine kg ?_; (first | refine guardT rfl rfl rfl rfl (fun h => ?_) (fun h => ?_) | refine guardF rfl rfl rfl rfl (fun h => ?_) (fun h => ?_) | refine guardU rfl rfl rfl rfl ?_ | refine guardTH rfl rfl rfl rfl ?_ (fun h => ?_) (fun h => ?_) | refine guardFH rfl rfl rfl rfl ?_ (fun h => ?_) (fun h => ?_) | refine guardUH rfl rfl rfl rfl ?_ ?_) <;> (first | exact h.elim | (exfalso; omega) | exact absurd h (by assumption) | exact absurd (by assumption) h | skip)))
     | (refine kC ?_; first | refine gseq ?_ | refine greg ?_ | refine gret ?_ | refine gskip ?_ | refine gdraw (id := 16) [0,1,2,3,4,5,6,7,8,9,10,11,12,13,14,15,16,17,18,19,20,21,22,23,24,25,26,27,28,29,30,31,32,33,34,35,36,37,38,39] (by kernel_rfl) (by kernel_rfl) rfl ?_ | (refine gcond rfl (fun h => ?_) (fun h => ?_) <;> (first | exact h.elim | (exfalso; omega) | exact absurd h (by assumption) | exact absurd (by assumption) h | skip)) | refine gblk ?_ | refine gexit ?_)
     | (refine kN ?_; first | refine gthen ?_ | refine gnblk ?_)
     | (refine kR ?_; first | refine grs ?_ | refine grb ?_ | refine grl ?_ | refine grc ?_)
     | (refine kX ?_; first | refine gxs ?_ | refine gxb ?_ | refine gxn rfl ?_ | refine gxl ?_ | refine gxc ?_)
     | (refine kR ?_; refine gr rfl (rvT rfl rv0) (_) rfl Ent.nil ?_)
     | exact Pre.mk (hto (by assumption))
     | exact Pre.mk ⟨p1, hk1 (by assumption)⟩
     | exact Pre.mk ⟨p2, hk1 (by assumption)⟩
     | exact Pre.mk ⟨p1, hk2 (by assumption)⟩
     | exact Pre.mk ⟨p2, hk2 (by assumption)⟩
     | (refine Pre.mk ?_; first | exact True.intro | omega | ((repeat' (first | refine And.intro ?_ ?_ | exact True.intro | assumption | omega)); done) | (simp only [and_true, true_and, or_true, true_or]; first | done | omega))
     | (refine kD ?_; first | exact dm_none | exact dm0 | refine dmOff rfl ?_ | refine dmOn (lvb rfl rfl) ?_ | refine dmOn (lvB rfl rfl rfl) ?_ | refine dmOn (lve rfl rfl) ?_ | refine dmOn (lvE rfl rfl rfl) ?_ | refine dmOn (lva rfl rfl rfl rfl rfl) ?_))
    all_goals first
      | exact gnl (i + 1) (by repeat (first | exact trivial | refine ⟨rfl, ?_⟩)) (er (er Ent.nil)) (by omega) (by omega)
      | (exfalso; rcases kl (by assumption) (by assumption) _ (.inl rfl) with hh | hh <;> exact absurd hh (by assumption))
      | (exfalso; rcases kl (by assumption) (by assumption) _ (.inr rfl) with hh | hh <;> exact absurd hh (by assumption))
      | skip
    rename_i st _
    refine gloopc [0, 1, 5, 7, 8, 12] (fun (i : Nat) K => (13, .int .i64 i) :: K) (fun i => i ≤ (needsL n cs).length) (fun i => (needsL n cs).length - i) 0 rfl (by repeat (first | exact trivial | refine ⟨rfl, ?_⟩)) (by simp) (fun j hj => ?_)
    have hto := fun h => p2.at (i := (j : Int)) ⟨by omega, h⟩
    have hto2 := fun h => p2.at (i := (j : Int) - 1) h
    have nl := fun h => needs_law hp hb (ixd_memP (l := needsL n cs) (i := (j : Int)) ⟨by omega, h⟩)
    have nlt : 0 < (j : Int) → (j : Int) < (needsL n cs).length → cmpP (ixd (needsL n cs) ((j : Int) - 1)) (ixd (needsL n cs) (j : Int)) < 0 := fun h1 h => by
      have e := needs_less (n := n) (cs := cs) (i := j - 1) (by omega)
      rw [show ((j - 1 : Nat) : Int) = (j : Int) - 1 by omega, show j - 1 + 1 = j by omega] at e
      exact e
    repeat' (first
     | (refine kO ?_; first | refine gv rfl rfl ?_ | refine gnil ?_ | refine gnilD ?_ | refine gl rfl (lvb rfl rfl) rfl (fun _ => ?_) | refine gl rfl (lvB rfl rfl rfl) rfl (fun _ => ?_) | refine gl rfl (lve rfl rfl) rfl (fun _ => ?_) | refine gl rfl (lvE rfl rfl rfl) rfl (fun _ => ?_) | refine gl rfl (lva rfl rfl rfl rfl rfl) rfl (fun _ => ?_) | refine gp rfl (by (try simp only [InR]); omega) rfl ?_ | refine gf rfl rfl rfl ?_ | refine gix rfl rfl rfl rfl (by omega) rfl (fun _ => ?_) | refine gixa rfl rfl rfl rfl (by omega) rfl (fun _ => ?_) | (refine kK ?_; first | refine gcall rfl ?_ rfl (fun _ _ => ?_) (fun _ _ => ?_) | refine gcv rfl rfl ?_ rfl (fun _ _ => ?_) (fun _ _ => ?_) | refine gcc1 rfl rfl ?_ rfl (fun _ _ => ?_) (fun _ _ => ?_)) | refine geql rfl rfl (by kernel_rfl) ?_ rfl ?_ | refine gneq rfl rfl (by kernel_rfl) ?_ rfl ?_ | refine ga rfl (fun _ => ?_) (fun _ => ?_) | refine gst rfl rfl rfl rfl ?_ ?_ | refine ge rfl rfl rfl rfl ?_ ?_ | refine gea rfl rfl rfl rfl rfl rfl rfl ?_ ?_ | refine gw rfl rfl ?_ | (refine kg ?_; (first | refine guardT rfl rfl rfl rfl (fun h => ?_) (fun h => ?_) | refine guardF rfl rfl rfl rfl (fun h => ?_) (fun h => ?_) | refine guardU rfl rfl rfl rfl ?_ | refine guardTH rfl rfl rfl rfl ?_ (fun h => ?_) (fun h => ?_) | refine guardFH rfl rfl rfl rfl ?_ (fun h => ?_) (fun h => ?_) | refine guardUH rfl rfl rfl rfl ?_ ?_) <;> (first | exact h.elim | (exfalso; omega) | exact absurd h (by assumption) | exact absurd (by assumption) h | skip)))
     | (refine kC ?_; first | refine gseq ?_ | refine greg ?_ | refine gret ?_ | refine gskip ?_ | refine gdraw (id := 16) [0,1,2,3,4,5,6,7,8,9,10,11,12,13,14,15,16,17,18,19,20,21,22,23,24,25,26,27,28,29,30,31,32,33,34,35,36,37,38,39] (by kernel_rfl) (by kernel_rfl) rfl ?_ | (refine gcond rfl (fun h => ?_) (fun h => ?_) <;> (first | exact h.elim | (exfalso; omega) | exact absurd h (by assumption) | exact absurd (by assumption) h | skip)) | refine gblk ?_ | refine gexit ?_)
     | (refine kN ?_; first | refine gthen ?_ | refine gnblk ?_)
     | (refine kR ?_; first | refine grs ?_ | refine grb ?_ | refine grl ?_ | refine grc ?_)
     | (refine kX ?_; first | refine gxs ?_ | refine gxb ?_ | refine gxn rfl ?_ | refine gxl ?_ | refine gxc ?_)
     | (refine kR ?_; refine gr rfl (rvT rfl rv0) (_) rfl Ent.nil ?_)
     | exact Pre.mk ⟨hp, hto (by assumption)⟩
     | exact Pre.mk ⟨p1, hto (by assumption)⟩
     | exact Pre.mk ⟨treesN_pls n, hto (by assumption)⟩
     | (refine Pre.mk ?_; first | exact True.intro | omega | ((repeat' (first | refine And.intro ?_ ?_ | exact True.intro | assumption | omega)); done) | (simp only [and_true, true_and, or_true, true_or]; first | done | omega))
     | (refine kD ?_; first | exact dm_none | exact dm0 | refine dmOff rfl ?_ | refine dmOn (lvb rfl rfl) ?_ | refine dmOn (lvB rfl rfl rfl) ?_ | refine dmOn (lve rfl rfl) ?_ | refine dmOn (lvE rfl rfl rfl) ?_ | refine dmOn (lva rfl rfl rfl rfl rfl) ?_))
    all_goals first
      | exact gnl (j + 1) (by repeat (first | exact trivial | refine ⟨rfl, ?_⟩)) (Ent.refl _) (by omega) (by omega)
      | (exfalso; exact absurd (nlt (by assumption) (by assumption)) (by assumption))
      | (exfalso; exact absurd (by assumption) (nl (by assumption)).2.2)
      | (exfalso; exact absurd (by assumption) (nl (by assumption)).2.1)
      | (exfalso; exact absurd ((nl (by assumption)).1.symm.trans (by assumption)) (by decide))
      | rfl
      | (exfalso; obtain rfl : cs = [] := List.eq_nil_of_length_eq_zero (by omega); have := congrArg List.length (ways_nil (n := n)); simp only [List.length_nil] at this; omega)
  · obtain ⟨n1, n2, n3⟩ := waysL_no hb
    have n4 := congrArg List.length n1
    have n5 := congrArg List.length n2
    simp only [List.length_nil] at n4 n5
    repeat' (first
     | (refine kO ?_; first | refine gv rfl rfl ?_ | refine gnil ?_ | refine gnilD ?_ | refine gl rfl (lvb rfl rfl) rfl (fun _ => ?_) | refine gl rfl (lvB rfl rfl rfl) rfl (fun _ => ?_) | refine gl rfl (lve rfl rfl) rfl (fun _ => ?_) | refine gl rfl (lvE rfl rfl rfl) rfl (fun _ => ?_) | refine gl rfl (lva rfl rfl rfl rfl rfl) rfl (fun _ => ?_) | refine gp rfl (by (try simp only [InR]); omega) rfl ?_ | refine gf rfl rfl rfl ?_ | refine gix rfl rfl rfl rfl (by omega) rfl (fun _ => ?_) | refine gixa rfl rfl rfl rfl (by omega) rfl (fun _ => ?_) | (refine kK ?_; first | refine gcall rfl ?_ rfl (fun _ _ => ?_) (fun _ _ => ?_) | refine gcv rfl rfl ?_ rfl (fun _ _ => ?_) (fun _ _ => ?_) | refine gcc1 rfl rfl ?_ rfl (fun _ _ => ?_) (fun _ _ => ?_)) | refine geql rfl rfl (by kernel_rfl) ?_ rfl ?_ | refine gneq rfl rfl (by kernel_rfl) ?_ rfl ?_ | refine ga rfl (fun _ => ?_) (fun _ => ?_) | refine gst rfl rfl rfl rfl ?_ ?_ | refine ge rfl rfl rfl rfl ?_ ?_ | refine gea rfl rfl rfl rfl rfl rfl rfl ?_ ?_ | refine gw rfl rfl ?_ | (refine kg ?_; (first | refine guardT rfl rfl rfl rfl (fun h => ?_) (fun h => ?_) | refine guardF rfl rfl rfl rfl (fun h => ?_) (fun h => ?_) | refine guardU rfl rfl rfl rfl ?_ | refine guardTH rfl rfl rfl rfl ?_ (fun h => ?_) (fun h => ?_) | refine guardFH rfl rfl rfl rfl ?_ (fun h => ?_) (fun h => ?_) | refine guardUH rfl rfl rfl rfl ?_ ?_) <;> (first | exact h.elim | (exfalso; omega) | exact absurd h (by assumption) | exact absurd (by assumption) h | skip)))
     | (refine kC ?_; first | refine gseq ?_ | refine greg ?_ | refine gret ?_ | refine gskip ?_ | refine gdraw (id := 16) [0,1,2,3,4,5,6,7,8,9,10,11,12,13,14,15,16,17,18,19,20,21,22,23,24,25,26,27,28,29,30,31,32,33,34,35,36,37,38,39] (by kernel_rfl) (by kernel_rfl) rfl ?_ | (refine gcond rfl (fun h => ?_) (fun h => ?_) <;> (first | exact h.elim | (exfalso; omega) | exact absurd h (by assumption) | exact absurd (by assumption) h | skip)) | refine gblk ?_ | refine gexit ?_)
     | (refine kN ?_; first | refine gthen ?_ | refine gnblk ?_)
     | (refine kR ?_; first | refine grs ?_ | refine grb ?_ | refine grl ?_ | refine grc ?_)
     | (refine kX ?_; first | refine gxs ?_ | refine gxb ?_ | refine gxn rfl ?_ | refine gxl ?_ | refine gxc ?_)
     | (refine kR ?_; refine gr rfl (rvT rfl rv0) (_) rfl Ent.nil ?_)
     | (refine Pre.mk ?_; first | exact True.intro | omega | ((repeat' (first | refine And.intro ?_ ?_ | exact True.intro | assumption | omega)); done) | (simp only [and_true, true_and, or_true, true_or]; first | done | omega))
     | (refine kD ?_; first | exact dm_none | exact dm0 | refine dmOff rfl ?_ | refine dmOn (lvb rfl rfl) ?_ | refine dmOn (lvB rfl rfl rfl) ?_ | refine dmOn (lve rfl rfl) ?_ | refine dmOn (lvE rfl rfl rfl) ?_ | refine dmOn (lva rfl rfl rfl rfl rfl) ?_))
    all_goals simp_all
instance c_law15_Enough {n : Int} {csA : Option Addr} {csc csn : Nat} {cs : List UInt64} {w0 : World} {X : Nat → Prop} {L : List Assn} [hcs : Rw w0 X L (.slice csA csn csc) RU cs] : Ctr Try.prog 7 [.int .u64 n, .slice csA csn csc] w0 X L (0 ≤ n) (fun _ : Unit => .bool (true)) (fun _ : Unit => L) (fun _ : Unit => True) :=
  ctr' (M' := (fun _ : Unit => [])) (by kernel_rfl) (fun hp w hw => by have ecs := hcs.len hw; subst ecs; exact law15_Enough _ _ _ _ w (hcs.get w hw) hp) (by rintro hp e0 rfl ok; exact ⟨(), rfl, rfl, trivial⟩)
end Go.Proofs.Ytjiglibogmehfaa
