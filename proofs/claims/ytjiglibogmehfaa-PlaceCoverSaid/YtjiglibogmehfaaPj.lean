/-
  moneyerref15: with, Ways, Needs.
-/
import Derived.Test.YtjiglibogmehfaaPi
set_option linter.all false
set_option maxRecDepth 100000
set_option maxHeartbeats 4000000
namespace Go.Proofs.Ytjiglibogmehfaa
open Go.RowKit

theorem ref15_with (s : Sv) (n : Nat) (l : List PlG) (r a : Int) (w0 : World) (Y : Nat → Prop) (hst : St w0 Y [rw_ 32 RPl s n l] w0) (hp : Pls l ∧ (0 ≤ r ∧ r ≤ 255 ∧ 0 ≤ a ∧ a ≤ 18446744073709551615) ∧ l.length ≤ 100000) :
    Ct Try.prog 33 [.slice s.A n s.c, Ag [.one (.int .u8 r), .one (.int .u64 a)]] w0 Y (fun (⟨s0, n0, x0⟩ : Br PlG) => .slice s0.A n0 s0.c) (fun ⟨s0, n0, x0⟩ => [rw_ 32 RPl s0 n0 x0]) (fun ⟨s0, n0, x0⟩ => x0 = withL l ⟨r, a⟩) := by
  obtain ⟨k0, hk0, _⟩ := hst.get (i := 0) rfl
  have hln := hk0.len
  subst hln
  refine genter _ hst Try.func33 rfl rfl rfl rfl ?_
  repeat' (first
   | (refine kO ?_; first | refine gv rfl rfl ?_ | refine gnil ?_ | refine gnilD ?_ | refine gl rfl (lvb rfl rfl) rfl (fun _ => ?_) | refine gl rfl (lvB rfl rfl rfl) rfl (fun _ => ?_) | refine gl rfl (lve rfl rfl) rfl (fun _ => ?_) | refine gl rfl (lvE rfl rfl rfl) rfl (fun _ => ?_) | refine gl rfl (lva rfl rfl rfl rfl rfl) rfl (fun _ => ?_) | refine gp rfl (by (try simp only [InR]); omega) rfl ?_ | refine gix rfl rfl rfl rfl (by omega) rfl (fun _ => ?_) | refine gixa rfl rfl rfl rfl (by omega) rfl (fun _ => ?_) | refine gc3 rfl rfl rfl rfl rfl rfl (by omega) rfl (fun _ => ?_) | refine gc2 rfl rfl rfl rfl rfl (by omega) rfl (fun _ => ?_) | refine gch rfl rfl rfl rfl (by omega) rfl (fun _ => ?_) | refine gcl rfl rfl rfl rfl (by omega) rfl (fun _ => ?_) | refine gca rfl rfl rfl rfl ?_ | (refine kK ?_; first | refine gcall rfl ?_ rfl (fun _ _ => ?_) (fun _ _ => ?_) | refine gcv rfl rfl ?_ rfl (fun _ _ => ?_) (fun _ _ => ?_) | refine gcc1 rfl rfl ?_ rfl (fun _ _ => ?_) (fun _ _ => ?_)) | refine geql rfl rfl (by kernel_rfl) ?_ rfl ?_ | refine gx rfl rfl (fun _ => ?_) (fun _ => ?_) | refine gap rfl rfl rfl (by omega) rfl (fun _ => ?_) (fun _ => ?_) | refine gan rfl rfl rfl (by omega) rfl (fun _ => ?_) (fun _ => ?_) | refine gapz rfl rfl rfl rfl (by omega) rfl (fun _ => ?_) (fun _ => ?_) | refine ganz rfl rfl rfl rfl (by omega) rfl (fun _ => ?_) (fun _ => ?_) | refine gbs RB rfl rfl rfl rfl rfl rfl (fun _ => ?_) (fun _ => ?_) | refine gbb rfl rfl rfl (by first | (simp; done) | (simp only [and_true]; omega)) rfl rfl rfl rfl (fun _ => ?_) (fun _ => ?_) | refine gw rfl rfl ?_ | (refine kg ?_; (first | refine guardT rfl rfl rfl rfl (fun h => ?_) (fun h => ?_) | refine guardF rfl rfl rfl rfl (fun h => ?_) (fun h => ?_) | refine guardU rfl rfl rfl rfl ?_ | refine guardTH rfl rfl rfl rfl ?_ (fun h => ?_) (fun h => ?_) | refine guardFH rfl rfl rfl rfl ?_ (fun h => ?_) (fun h => ?_) | refine guardUH rfl rfl rfl rfl ?_ ?_) <;> (first | exact h.elim | (exfalso; omega) | exact absurd h (by assumption) | exact absurd (by assumption) h | skip)))
   | (refine kC ?_; first | refine gseq ?_ | refine greg ?_ | refine gret ?_ | refine gskip ?_ | refine gdraw (id := 2) [0,1,2,3,4,5,6,7,8,9,10,11] (by kernel_rfl) (by kernel_rfl) rfl ?_ | refine gdraw (id := 4) [0,1,2,3,4,5,6,7,8,9,10,11] (by kernel_rfl) (by kernel_rfl) rfl ?_ | (refine gcond rfl (fun h => ?_) (fun h => ?_) <;> (first | exact h.elim | (exfalso; omega) | exact absurd h (by assumption) | exact absurd (by assumption) h | skip)) | refine gblk ?_ | refine gexit ?_)
   | (refine kN ?_; first | refine gthen ?_ | refine gnblk ?_)
   | (refine kR ?_; first | refine grs ?_ | refine grb ?_ | refine grl ?_ | refine grc ?_)
   | (refine kX ?_; first | refine gxs ?_ | refine gxb ?_ | refine gxn rfl ?_ | refine gxl ?_ | refine gxc ?_)
   | (refine kR ?_; refine gr rfl (rvT rfl rv0) (⟨_, _, _⟩) rfl (er Ent.nil) ?_)
   | (refine kR ?_; refine gr rfl (rvT rfl rv0) (⟨⟨none, 0⟩, 0, []⟩) rfl (er0 Ent.nil) ?_)
   | (refine Pre.mk ?_; first | exact True.intro | omega | ((repeat' (first | refine And.intro ?_ ?_ | exact True.intro | assumption | omega)); done) | (simp only [and_true, true_and, or_true, true_or]; first | done | omega))
   | (refine kD ?_; first | exact dm_none | exact dm0 | refine dmOff rfl ?_ | refine dmOn (lvb rfl rfl) ?_ | refine dmOn (lvB rfl rfl rfl) ?_ | refine dmOn (lve rfl rfl) ?_ | refine dmOn (lvE rfl rfl rfl) ?_ | refine dmOn (lva rfl rfl rfl rfl rfl) ?_))
  refine gloopc [0, 3] (fun (i : Nat) K => (5, .int .i64 i) :: K) (fun i => i ≤ l.length ∧ withL l ⟨r, a⟩ = l.take i ++ withL (l.drop i) ⟨r, a⟩) (fun i => l.length - i) 0 rfl (by repeat (first | exact trivial | refine ⟨rfl, ?_⟩)) (by simp) (fun i hi => ?_)
  have hb := fun h => hp.1.at (i := (i : Int)) ⟨by omega, h⟩
  repeat' (first
   | (refine kO ?_; first | refine gbs RPl rfl rfl rfl rfl rfl rfl (fun _ => ?_) (fun _ => ?_) | refine gv rfl rfl ?_ | refine gnil ?_ | refine gnilD ?_ | refine gl rfl (lvb rfl rfl) rfl (fun _ => ?_) | refine gl rfl (lvB rfl rfl rfl) rfl (fun _ => ?_) | refine gl rfl (lve rfl rfl) rfl (fun _ => ?_) | refine gl rfl (lvE rfl rfl rfl) rfl (fun _ => ?_) | refine gl rfl (lva rfl rfl rfl rfl rfl) rfl (fun _ => ?_) | refine gp rfl (by (try simp only [InR]); omega) rfl ?_ | refine gix rfl rfl rfl rfl (by omega) rfl (fun _ => ?_) | refine gixa rfl rfl rfl rfl (by omega) rfl (fun _ => ?_) | refine gc3 rfl rfl rfl rfl rfl rfl (by omega) rfl (fun _ => ?_) | refine gc2 rfl rfl rfl rfl rfl (by omega) rfl (fun _ => ?_) | refine gch rfl rfl rfl rfl (by omega) rfl (fun _ => ?_) | refine gcl rfl rfl rfl rfl (by omega) rfl (fun _ => ?_) | refine gca rfl rfl rfl rfl ?_ | (refine kK ?_; first | refine gcall rfl ?_ rfl (fun _ _ => ?_) (fun _ _ => ?_) | refine gcv rfl rfl ?_ rfl (fun _ _ => ?_) (fun _ _ => ?_) | refine gcc1 rfl rfl ?_ rfl (fun _ _ => ?_) (fun _ _ => ?_)) | refine geql rfl rfl (by kernel_rfl) ?_ rfl ?_ | refine gx rfl rfl (fun _ => ?_) (fun _ => ?_) | refine gap rfl rfl rfl (by omega) rfl (fun _ => ?_) (fun _ => ?_) | refine gan rfl rfl rfl (by omega) rfl (fun _ => ?_) (fun _ => ?_) | refine gapz rfl rfl rfl rfl (by omega) rfl (fun _ => ?_) (fun _ => ?_) | refine ganz rfl rfl rfl rfl (by omega) rfl (fun _ => ?_) (fun _ => ?_) | refine gbs RB rfl rfl rfl rfl rfl rfl (fun _ => ?_) (fun _ => ?_) | refine gbb rfl rfl rfl (by first | (simp; done) | (simp only [and_true]; omega)) rfl rfl rfl rfl (fun _ => ?_) (fun _ => ?_) | refine gw rfl rfl ?_ | (refine kg ?_; (first | refine guardT rfl rfl rfl rfl (fun h => ?_) (fun h => ?_) | refine guardF rfl rfl rfl rfl (fun h => ?_) (fun h => ?_) | refine guardU rfl rfl rfl rfl ?_ | refine guardTH rfl rfl rfl rfl ?_ (fun h => ?_) (fun h => ?_) | refine guardFH rfl rfl rfl rfl ?_ (fun h => ?_) (fun h => ?_) | refine guardUH rfl rfl rfl rfl ?_ ?_) <;> (first | exact h.elim | (exfalso; omega) | exact absurd h (by assumption) | exact absurd (by assumption) h | skip)))
   | (refine kC ?_; first | refine gseq ?_ | refine greg ?_ | refine gret ?_ | refine gskip ?_ | refine gdraw (id := 2) [0,1,2,3,4,5,6,7,8,9,10,11] (by kernel_rfl) (by kernel_rfl) rfl ?_ | refine gdraw (id := 4) [0,1,2,3,4,5,6,7,8,9,10,11] (by kernel_rfl) (by kernel_rfl) rfl ?_ | (refine gcond rfl (fun h => ?_) (fun h => ?_) <;> (first | exact h.elim | (exfalso; omega) | exact absurd h (by assumption) | exact absurd (by assumption) h | skip)) | refine gblk ?_ | refine gexit ?_)
   | (refine kN ?_; first | refine gthen ?_ | refine gnblk ?_)
   | (refine kR ?_; first | refine grs ?_ | refine grb ?_ | refine grl ?_ | refine grc ?_)
   | (refine kX ?_; first | refine gxs ?_ | refine gxb ?_ | refine gxn rfl ?_ | refine gxl ?_ | refine gxc ?_)
   | (refine kR ?_; refine gr rfl (rvT rfl rv0) (⟨_, _, _⟩) rfl (er Ent.nil) ?_)
   | (refine kR ?_; refine gr rfl (rvT rfl rv0) (⟨⟨none, 0⟩, 0, []⟩) rfl (er0 Ent.nil) ?_)
   | exact Pre.mk ⟨hb (by assumption), hp.2.1⟩
   | (refine Pre.mk ?_; first | exact True.intro | omega | ((repeat' (first | refine And.intro ?_ ?_ | exact True.intro | assumption | omega)); done) | (simp only [and_true, true_and, or_true, true_or]; first | done | omega))
   | (refine kD ?_; first | exact dm_none | exact dm0 | refine dmOff rfl ?_ | refine dmOn (lvb rfl rfl) ?_ | refine dmOn (lvB rfl rfl rfl) ?_ | refine dmOn (lve rfl rfl) ?_ | refine dmOn (lvE rfl rfl rfl) ?_ | refine dmOn (lva rfl rfl rfl rfl rfl) ?_))
  · have hi1 : (i : Int) < l.length := by assumption
    refine gnl (i + 1) (by repeat (first | exact trivial | refine ⟨rfl, ?_⟩)) (Ent.refl _) ⟨by omega, ?_⟩ (by omega)
    have hd := drop_ixd (l := l) (i := i) (by omega)
    obtain ⟨t1, _, _⟩ := take_of_drop hd
    rw [hi.2, t1, hd, withL, if_pos h, List.append_assoc]; rfl
  · have hd := drop_ixd (l := l) (i := i) (by omega)
    have e : ixd l (i : Int) = ⟨r, a⟩ := by rw [← h.1, ← h.2.1]
    show l = withL l ⟨r, a⟩
    rw [hi.2, hd, withL, if_neg (by assumption), if_pos e, ← hd, List.take_append_drop]
  · have hd := drop_ixd (l := l) (i := i) (by omega)
    have e : ¬ ixd l (i : Int) = ⟨r, a⟩ := fun e => h (by rw [e]; exact ⟨rfl, rfl, trivial⟩)
    show _ = withL l ⟨r, a⟩
    rw [hi.2, hd, withL, if_neg (by assumption), if_neg e, ← hd]
    simp [List.take_of_length_le]
  · show _ = withL l ⟨r, a⟩
    rw [hi.2, List.drop_eq_nil_of_le (show l.length ≤ i by omega), withL]
    have e : i = l.length := by omega
    subst e; simp
instance with_ctr {w0 : World} {X : Nat → Prop} {L rest : List Assn} {s : Sv} {n : Nat} {l : List PlG} {r a : Int} [hr : FRow L s n 32 RPl l] [hs : Spl L [rw_ 32 RPl s n l] rest] :
    Ctr Try.prog 33 [.slice s.A n s.c, Ag [.one (.int .u8 r), .one (.int .u64 a)]] w0 X L (Pls l ∧ (0 ≤ r ∧ r ≤ 255 ∧ 0 ≤ a ∧ a ≤ 18446744073709551615) ∧ l.length ≤ 100000) (fun s : Sv => .slice s.A (withL l ⟨r, a⟩).length s.c) (fun s => rw_ 32 RPl s (withL l ⟨r, a⟩).length (withL l ⟨r, a⟩) :: rest) (fun _ => True) :=
  ⟨by kernel_rfl, fun hp w hw => by
    obtain ⟨Y, h1, h2⟩ := hw.lendS hs
    refine (ref15_with s n l r a w Y h1 hp).mono fun e w' ⟨⟨s0, n0, x0⟩, he, hst, hφ⟩ => ?_
    have hx : x0 = withL l ⟨r, a⟩ := hφ
    obtain ⟨k, hk, _⟩ := hst.get (i := 0) rfl
    have hl := hk.len
    subst hx
    subst hl
    exact ⟨s0, he, h2 _ _ hst, trivial⟩⟩
theorem withL_pls {l : List PlG} {p : PlG} (h : Pls l) (hp : PlOk p) : Pls (withL l p) := fun q hq => by
  rcases withL_mem.1 hq with hq | rfl
  · exact h q hq
  · exact hp
theorem way_drop {n c r k : Nat} (ht : treeP n c = pa c r) (hk : k ≤ r) : (wayL n c).drop k = pa c k :: (wayL n c).drop (k + 1) ∧ (k = r → (wayL n c).drop (k + 1) = []) := by
  have hl : (wayL n c).length = r + 1 := by unfold wayL; rw [ht]; simp
  refine ⟨?_, fun e => List.drop_eq_nil_of_le (by omega)⟩
  rw [List.drop_eq_getElem_cons (by omega)]
  congr 1
  unfold wayL; simp
theorem ref15_Ways (n : Int) (csA : Option Addr) (csc : Nat) (cs : List UInt64) (w0 : World) (hcs : Slr w0 RU (.slice csA cs.length csc) cs) (hp : 0 ≤ n) :
    Ct Try.prog 9 [.int .u64 n, .slice csA cs.length csc] w0 no (fun ((⟨s0, n0, x0⟩, e1) : Br PlG × Int) => .tuple #[.slice s0.A n0 s0.c, .int .i64 e1]) (fun (⟨s0, n0, x0⟩, e1) => [rw_ 32 RPl s0 n0 x0]) (fun (⟨s0, n0, x0⟩, e1) => x0 = (waysL n cs) ∧ e1 = waysE n cs) := by
  have hst := St.start w0
  have i_cs := Rw.old hcs
  refine genter _ hst Try.func9 rfl rfl rfl rfl ?_
  obtain ⟨N, rfl⟩ := Int.eq_ofNat_of_zero_le hp
  have hcap := hcs.cap
  repeat' (first
   | (refine kO ?_; first | refine gv rfl rfl ?_ | refine gnil ?_ | refine gl rfl (lvb rfl rfl) rfl (fun _ => ?_) | refine gl rfl (lvB rfl rfl rfl) rfl (fun _ => ?_) | refine gl rfl (lve rfl rfl) rfl (fun _ => ?_) | refine gl rfl (lvE rfl rfl rfl) rfl (fun _ => ?_) | refine gl rfl (lva rfl rfl rfl rfl rfl) rfl (fun _ => ?_) | refine gp rfl (by (try simp only [InR]); omega) rfl ?_ | refine gix rfl rfl rfl rfl (by omega) rfl (fun _ => ?_) | refine gixa rfl rfl rfl rfl (by omega) rfl (fun _ => ?_) | (refine kK ?_; first | refine gcall rfl ?_ rfl (fun _ _ => ?_) (fun _ _ => ?_) | refine gcv rfl rfl ?_ rfl (fun _ _ => ?_) (fun _ _ => ?_) | refine gcc1 rfl rfl ?_ rfl (fun _ _ => ?_) (fun _ _ => ?_)) | refine geql rfl rfl (by kernel_rfl) ?_ rfl ?_ | refine gbu rfl rfl rfl rfl rfl ?_ | refine ga rfl (fun _ => ?_) (fun _ => ?_) | refine gst rfl rfl rfl rfl ?_ ?_ | refine ge rfl rfl rfl rfl ?_ ?_ | refine gea rfl rfl rfl rfl rfl rfl rfl ?_ ?_ | refine gw rfl rfl ?_)
   | (refine kC ?_; first | refine gseq ?_ | refine greg ?_ | refine gret ?_ | refine gskip ?_ | (refine gcond rfl (fun h => ?_) (fun h => ?_) <;> (first | exact h.elim | (exfalso; omega) | exact absurd h (by assumption) | exact absurd (by assumption) h | skip)) | refine gblk ?_ | refine gexit ?_)
   | (refine kN ?_; first | refine gthen ?_ | refine gnblk ?_)
   | (refine kR ?_; first | refine grs ?_ | refine grb ?_ | refine grl ?_ | refine grc ?_)
   | (refine kX ?_; first | refine gxs ?_ | refine gxb ?_ | refine gxn rfl ?_ | refine gxl ?_ | refine gxc ?_)
   | (refine kR ?_; refine gr rfl (rvT rfl (rvT rfl rv0)) (⟨_, _, _⟩, _) rfl (er Ent.nil) ?_)
   | (refine kR ?_; refine gr rfl (rvT rfl (rvT rfl rv0)) (⟨⟨none, 0⟩, 0, []⟩, _) rfl (er0 Ent.nil) ?_)
   | (refine Pre.mk ?_; first | exact True.intro | omega | ((repeat' (first | refine And.intro ?_ ?_ | exact True.intro | assumption | omega)); done) | (simp only [and_true, true_and, or_true, true_or]; first | done | omega))
   | (refine kD ?_; first | exact dm_none))
  · show _ = waysL N cs ∧ _ = waysE N cs
    unfold waysL waysE; rw [if_neg (by rw [h]; decide), if_neg (by rw [h]; decide)]; exact ⟨rfl, rfl⟩
  · have hb : mayB N cs = true := by assumption
    have hN := mayB_len hb
    have hlt := mayC_lt hb
    refine gloop3 [0, 1] (fun (i : Nat) (x : List PlG) (s : Sv) K => (6, .slice s.A x.length s.c) :: (7, .int .i64 i) :: K) (fun i x s => [rw_ 32 RPl s x.length x]) (fun i x s => i ≤ cs.length ∧ refW N (cs.drop i) x = refW N cs [] ∧ Pls x ∧ x.length ≤ 21 * i) (fun i x s => cs.length - i) 0 [] ⟨none, 0⟩ rfl (by repeat (first | exact trivial | refine ⟨rfl, ?_⟩)) (er0 Ent.nil) ⟨by omega, rfl, (fun p hp => by cases hp), by simp⟩ (fun i x s hi => ?_)
    obtain ⟨i1, i2, i3, i4⟩ := hi
    have hwi : (i : Int) < cs.length → IntKind.wrap .i64 ((i : Int) + 1) = ((i + 1 : Nat) : Int) := fun h => by rw [InR.wrap (k := .i64) (by simp only [InR]; omega)]; omega
    repeat' (first
     | (refine kO ?_; first | refine gv rfl rfl ?_ | refine gnil ?_ | refine gl rfl (lvb rfl rfl) rfl (fun _ => ?_) | refine gl rfl (lvB rfl rfl rfl) rfl (fun _ => ?_) | refine gl rfl (lve rfl rfl) rfl (fun _ => ?_) | refine gl rfl (lvE rfl rfl rfl) rfl (fun _ => ?_) | refine gl rfl (lva rfl rfl rfl rfl rfl) rfl (fun _ => ?_) | refine gp rfl (by (try simp only [InR]); omega) rfl ?_ | refine gix rfl rfl rfl rfl (by omega) rfl (fun _ => ?_) | refine gixa rfl rfl rfl rfl (by omega) rfl (fun _ => ?_) | (refine kK ?_; first | refine gcall rfl ?_ rfl (fun _ _ => ?_) (fun _ _ => ?_) | refine gcv rfl rfl ?_ rfl (fun _ _ => ?_) (fun _ _ => ?_) | refine gcc1 rfl rfl ?_ rfl (fun _ _ => ?_) (fun _ _ => ?_)) | refine geql rfl rfl (by kernel_rfl) ?_ rfl ?_ | refine gbu rfl rfl rfl rfl rfl ?_ | refine ga rfl (fun _ => ?_) (fun _ => ?_) | refine gst rfl rfl rfl rfl ?_ ?_ | refine ge rfl rfl rfl rfl ?_ ?_ | refine gea rfl rfl rfl rfl rfl rfl rfl ?_ ?_ | refine gw rfl rfl ?_)
     | (refine kC ?_; first | refine gseq ?_ | refine greg ?_ | refine gret ?_ | refine gskip ?_ | (refine gcond rfl (fun h => ?_) (fun h => ?_) <;> (first | exact h.elim | (exfalso; omega) | exact absurd h (by assumption) | exact absurd (by assumption) h | skip)) | refine gblk ?_ | refine gexit ?_)
     | (refine kN ?_; first | refine gthen ?_ | refine gnblk ?_)
     | (refine kR ?_; first | refine grs ?_ | refine grb ?_ | refine grl ?_ | refine grc ?_)
     | (refine kX ?_; first | refine gxs ?_ | refine gxb ?_ | refine gxn rfl ?_ | refine gxl ?_ | refine gxc ?_)
     | (refine kR ?_; refine gr rfl (rvT rfl (rvT rfl rv0)) (⟨_, _, _⟩, _) rfl (er Ent.nil) ?_)
     | (refine kR ?_; refine gr rfl (rvT rfl (rvT rfl rv0)) (⟨⟨none, 0⟩, 0, []⟩, _) rfl (er0 Ent.nil) ?_)
     | (refine Pre.mk ?_; first | exact True.intro | omega | ((repeat' (first | refine And.intro ?_ ?_ | exact True.intro | assumption | omega)); done) | (simp only [and_true, true_and, or_true, true_or]; first | done | omega))
     | (refine kD ?_; first | exact dm_none))
    · rename_i gt _ _ gp
      have hi1 : (i : Int) < cs.length := by assumption
      have hd := drop_ixd (l := cs) (i := i) (by omega)
      have hmem : ixd cs (i : Int) ∈ cs := by rw [ixd_eq (by omega)]; exact List.getElem_mem _
      have hcn := hlt _ hmem
      rw [hd] at i2
      generalize hc : (ixd cs (i : Int)).toNat = c at *
      obtain ⟨r, e1, e2, e3, e4⟩ := claim_tree (n := N) (c := c) (by omega) (by omega)
      have hw1 : refW N (cs.drop (i + 1)) ((wayL N c).foldl withL x) = refW N cs [] := by rw [← i2]; unfold refW; rw [List.foldl_cons, hc]
      rw [e1]
      have hdc : ∀ k, c / 2 ^ k ≤ c := fun k => Nat.div_le_self _ _
      refine gloop3 [0, 1, 7, 8, 10] (fun (k : Nat) (y : List PlG) (s : Sv) K => (6, .slice s.A y.length s.c) :: K) (fun k y s => [boxA gp 32 [.one (.int .u8 (k : Nat)), .one (.int .u64 ((c / 2 ^ k : Nat) : Int))], boxA gt 32 [.one (.int .u8 (pa c r).row), .one (.int .u64 (pa c r).at_)], rw_ 32 RPl s y.length y]) (fun k y s => k ≤ r ∧ ((wayL N c).drop k).foldl withL y = (wayL N c).foldl withL x ∧ Pls y ∧ y.length ≤ 21 * i + k) (fun k y s => 21 - k) 0 x s rfl (by repeat (first | exact trivial | refine ⟨rfl, ?_⟩)) (by simp only [Nat.pow_zero, Nat.div_one]; exact eb (eb (er Ent.nil))) ⟨by omega, rfl, i3, by omega⟩ (fun k y s hk => ?_)
      obtain ⟨k1, k2, k3, k4⟩ := hk
      have hck := hdc k
      have hcr := hdc r
      have hpk : PlOk (pa c k) := pok (by omega) (by omega)
      have hpr : PlOk (pa c r) := pok (by omega) (by omega)
      obtain ⟨wd1, wd2⟩ := way_drop e1 k1
      have hwl : (withL y (pa c k)).length ≤ y.length + 1 := withL_len
      rw [wd1, List.foldl_cons] at k2
      have hu : IntKind.wrap .u8 ((k : Int) + 1) = ((k + 1 : Nat) : Int) := by rw [IntKind.wrap_u8]; omega
      repeat' (first
       | (refine kO ?_; first | refine gv rfl rfl ?_ | refine gnil ?_ | refine gl rfl (lvb rfl rfl) rfl (fun _ => ?_) | refine gl rfl (lvB rfl rfl rfl) rfl (fun _ => ?_) | refine gl rfl (lve rfl rfl) rfl (fun _ => ?_) | refine gl rfl (lvE rfl rfl rfl) rfl (fun _ => ?_) | refine gl rfl (lva rfl rfl rfl rfl rfl) rfl (fun _ => ?_) | refine gp rfl (by (try simp only [InR]); omega) rfl ?_ | refine gix rfl rfl rfl rfl (by omega) rfl (fun _ => ?_) | refine gixa rfl rfl rfl rfl (by omega) rfl (fun _ => ?_) | (refine kK ?_; first | refine gcall rfl ?_ rfl (fun _ _ => ?_) (fun _ _ => ?_) | refine gcv rfl rfl ?_ rfl (fun _ _ => ?_) (fun _ _ => ?_) | refine gcc1 rfl rfl ?_ rfl (fun _ _ => ?_) (fun _ _ => ?_)) | refine geql rfl rfl (by kernel_rfl) ?_ rfl ?_ | refine gbu rfl rfl rfl rfl rfl ?_ | refine ga rfl (fun _ => ?_) (fun _ => ?_) | refine gst rfl rfl rfl rfl ?_ ?_ | refine ge rfl rfl rfl rfl ?_ ?_ | refine gea rfl rfl rfl rfl rfl rfl rfl ?_ ?_ | refine gw rfl rfl ?_)
       | (refine kC ?_; first | refine gseq ?_ | refine greg ?_ | refine gret ?_ | refine gskip ?_ | (refine gcond rfl (fun h => ?_) (fun h => ?_) <;> (first | exact h.elim | (exfalso; omega) | exact absurd h (by assumption) | exact absurd (by assumption) h | skip)) | refine gblk ?_ | refine gexit ?_)
       | (refine kN ?_; first | refine gthen ?_ | refine gnblk ?_)
       | (refine kR ?_; first | refine grs ?_ | refine grb ?_ | refine grl ?_ | refine grc ?_)
       | (refine kX ?_; first | refine gxs ?_ | refine gxb ?_ | refine gxn rfl ?_ | refine gxl ?_ | refine gxc ?_)
       | (refine kR ?_; refine gr rfl (rvT rfl (rvT rfl rv0)) (⟨_, _, _⟩, _) rfl (er Ent.nil) ?_)
       | (refine kR ?_; refine gr rfl (rvT rfl (rvT rfl rv0)) (⟨⟨none, 0⟩, 0, []⟩, _) rfl (er0 Ent.nil) ?_)
       | exact Pre.mk ⟨k3, hpk, by omega⟩
       | exact Pre.mk hpk
       | exact Pre.mk ⟨hpk, hpr⟩
       | (refine Pre.mk ?_; first | exact True.intro | omega | ((repeat' (first | refine And.intro ?_ ?_ | exact True.intro | assumption | omega)); done) | (simp only [and_true, true_and, or_true, true_or]; first | done | omega))
       | (refine kD ?_; first | exact dm_none))
      · rename_i s' _ _ _
        have hkr : k = r := by have := h.1; simp only at this; omega
        have k2' : withL y (pa c k) = (wayL N c).foldl withL x := by rw [← k2, wd2 hkr]; rfl
        rw [hwi hi1]
        refine gnl3 (i + 1) (withL y (pa c k)) s' (by repeat (first | exact trivial | refine ⟨rfl, ?_⟩)) (er Ent.nil) ⟨by omega, by rw [k2']; exact hw1, withL_pls k3 hpk, by omega⟩ (by omega)
      · rename_i s' _ _ _ _ _ _
        have hkr : k ≠ r := fun e => h (by subst e; exact ⟨rfl, rfl, trivial⟩)
        have hpp := parent_pa (c := c) (k := k) (by omega) (by omega)
        rw [hpp]
        refine gnl3 (k + 1) (withL y (pa c k)) s' (by repeat (first | exact trivial | refine ⟨rfl, ?_⟩)) (eb (eb (er Ent.nil))) ⟨by omega, k2, withL_pls k3 hpk, by omega⟩ (by omega)
    · show x = waysL N cs ∧ _ = waysE N cs
      unfold waysL waysE; rw [if_pos hb, if_pos hb]
      refine ⟨?_, rfl⟩
      rw [← refW_eq (by omega) (fun c hc => by have := hlt c hc; omega), ← i2, List.drop_eq_nil_of_le (by omega)]; rfl
instance c_ref15_Ways {n : Int} {csA : Option Addr} {csc csn : Nat} {cs : List UInt64} {w0 : World} {X : Nat → Prop} {L : List Assn} [hcs : Rw w0 X L (.slice csA csn csc) RU cs] : Ctr Try.prog 9 [.int .u64 n, .slice csA csn csc] w0 X L (0 ≤ n) (fun s0 : Sv => .tuple #[.slice s0.A (waysL n cs).length s0.c, .int .i64 (waysE n cs)]) (fun s0 : Sv => rw_ 32 RPl s0 (waysL n cs).length (waysL n cs) :: L) (fun s0 : Sv => True) :=
  ctr' (M' := (fun s0 : Sv => [rw_ 32 RPl s0 (waysL n cs).length (waysL n cs)])) (by kernel_rfl) (fun hp w hw => by have ecs := hcs.len hw; subst ecs; exact ref15_Ways _ _ _ _ w (hcs.get w hw) hp) (by rintro hp ⟨⟨s0, n0, x0⟩, e1⟩ ⟨rfl, rfl⟩ ok; cases ok.row; exact ⟨s0, rfl, rfl, trivial⟩)
theorem waysL_mem {n : Int} {cs : List UInt64} (h : mayB n cs = true) (q : PlG) : q ∈ waysL n cs ↔ q ∈ waysK n cs [] := by
  unfold waysL; rw [if_pos h]; exact (sortP_perm _).mem_iff
theorem waysL_pls {n : Int} {cs : List UInt64} (hn : 0 ≤ n) : Pls (waysL n cs) := fun p hp => by
  by_cases h : mayB n cs = true
  · have hl := mayC_lt h
    have hN := mayB_len h
    obtain ⟨N, rfl⟩ := Int.eq_ofNat_of_zero_le hn
    rw [waysL_mem h, way_iff (by omega) (fun c hc => by have := hl c hc; omega)] at hp
    obtain ⟨c, h1, k, r, h2, h3, rfl⟩ := hp
    have := hl c h1
    obtain ⟨r', g, e1, e2, e3, e4⟩ := tree_mem (by omega) h3
    have hr : r = r' := by unfold pa at e1; rw [PlG.mk.injEq] at e1; omega
    have hd : c.toNat / 2 ^ k ≤ c.toNat := Nat.div_le_self _ _
    exact pok (by omega) (by omega)
  · unfold waysL at hp; rw [if_neg h] at hp; cases hp
theorem waysL_len {n : Int} {cs : List UInt64} : (waysL n cs).length ≤ 5376 := by
  unfold waysL
  split
  · rename_i h
    rw [sortP_len]
    have := waysK_len n cs []; have := (mayB_len h).1; simp at *; omega
  · simp
theorem ref15_Needs (n : Int) (csA : Option Addr) (csc : Nat) (cs : List UInt64) (w0 : World) (hcs : Slr w0 RU (.slice csA cs.length csc) cs) (hp : 0 ≤ n) :
    Ct Try.prog 11 [.int .u64 n, .slice csA cs.length csc] w0 no (fun ((⟨s0, n0, x0⟩, e1) : Br PlG × Int) => .tuple #[.slice s0.A n0 s0.c, .int .i64 e1]) (fun (⟨s0, n0, x0⟩, e1) => [rw_ 32 RPl s0 n0 x0]) (fun (⟨s0, n0, x0⟩, e1) => x0 = (needsL n cs) ∧ e1 = waysE n cs) := by
  have hst := St.start w0
  have i_cs := Rw.old hcs
  refine genter _ hst Try.func11 rfl rfl rfl rfl ?_
  have hwp := waysL_pls (cs := cs) hp
  have hwn := waysL_len (n := n) (cs := cs)
  have htl := treesN_len n
  repeat' (first
   | (refine kO ?_; first | refine gv rfl rfl ?_ | refine gnil ?_ | refine gl rfl (lvb rfl rfl) rfl (fun _ => ?_) | refine gl rfl (lvB rfl rfl rfl) rfl (fun _ => ?_) | refine gl rfl (lve rfl rfl) rfl (fun _ => ?_) | refine gl rfl (lvE rfl rfl rfl) rfl (fun _ => ?_) | refine gl rfl (lva rfl rfl rfl rfl rfl) rfl (fun _ => ?_) | refine gp rfl (by (try simp only [InR]); omega) rfl ?_ | refine gix rfl rfl rfl rfl (by omega) rfl (fun _ => ?_) | refine gixa rfl rfl rfl rfl (by omega) rfl (fun _ => ?_) | (refine kK ?_; first | refine gcall rfl ?_ rfl (fun _ _ => ?_) (fun _ _ => ?_) | refine gcv rfl rfl ?_ rfl (fun _ _ => ?_) (fun _ _ => ?_) | refine gcc1 rfl rfl ?_ rfl (fun _ _ => ?_) (fun _ _ => ?_)) | refine gneq rfl rfl (by kernel_rfl) ?_ rfl ?_ | refine ga rfl (fun _ => ?_) (fun _ => ?_) | refine gst rfl rfl rfl rfl ?_ ?_ | refine ge rfl rfl rfl rfl ?_ ?_ | refine gea rfl rfl rfl rfl rfl rfl rfl ?_ ?_ | refine gw rfl rfl ?_ | (refine kg ?_; (first | refine guardT rfl rfl rfl rfl (fun h => ?_) (fun h => ?_) | refine guardF rfl rfl rfl rfl (fun h => ?_) (fun h => ?_) | refine guardU rfl rfl rfl rfl ?_ | refine guardTH rfl rfl rfl rfl ?_ (fun h => ?_) (fun h => ?_) | refine guardFH rfl rfl rfl rfl ?_ (fun h => ?_) (fun h => ?_) | refine guardUH rfl rfl rfl rfl ?_ ?_) <;> (first | exact h.elim | (exfalso; omega) | exact absurd h (by assumption) | exact absurd (by assumption) h | skip)))
   | (refine kC ?_; first | refine gseq ?_ | refine greg ?_ | refine gret ?_ | refine gskip ?_ | (refine gcond rfl (fun h => ?_) (fun h => ?_) <;> (first | exact h.elim | (exfalso; omega) | exact absurd h (by assumption) | exact absurd (by assumption) h | skip)) | refine gblk ?_ | refine gexit ?_)
   | (refine kN ?_; first | refine gthen ?_ | refine gnblk ?_)
   | (refine kR ?_; first | refine grs ?_ | refine grb ?_ | refine grl ?_ | refine grc ?_)
   | (refine kX ?_; first | refine gxs ?_ | refine gxb ?_ | refine gxn rfl ?_ | refine gxl ?_ | refine gxc ?_)
   | (refine kR ?_; refine gr rfl (rvT rfl (rvT rfl rv0)) (⟨_, _, _⟩, _) rfl (er Ent.nil) ?_)
   | (refine kR ?_; refine gr rfl (rvT rfl (rvT rfl rv0)) (⟨⟨none, 0⟩, 0, []⟩, _) rfl (er0 Ent.nil) ?_)
   | (refine Pre.mk ?_; first | exact True.intro | omega | ((repeat' (first | refine And.intro ?_ ?_ | exact True.intro | assumption | omega)); done) | (simp only [and_true, true_and, or_true, true_or]; first | done | omega))
   | (refine kD ?_; first | exact dm_none))
  · have hb : ¬ mayB n cs = true := fun hb => h (by unfold waysE; rw [if_pos hb])
    show _ = needsL n cs ∧ _ = waysE n cs
    unfold needsL; rw [if_neg hb]; exact ⟨rfl, rfl⟩
  · rename_i s6 _ s8 _
    have hb : mayB n cs = true := Classical.byContradiction fun hb => by
      have h0 : waysE n cs = 0 := by assumption
      unfold waysE at h0; rw [if_neg hb] at h0; omega
    refine gloop3 [6, 8] (fun (i : Nat) (x : List PlG) (s : Sv) K => (9, .slice s.A x.length s.c) :: (10, .int .i64 i) :: K) (fun i x s => [rw_ 32 RPl s8 (treesN n).length (treesN n), rw_ 32 RPl s6 (waysL n cs).length (waysL n cs), rw_ 32 RPl s x.length x]) (fun i x s => i ≤ (waysL n cs).length ∧ ((waysL n cs).drop i).foldl (refQ (treesN n) (waysL n cs)) x = (waysL n cs).foldl (refQ (treesN n) (waysL n cs)) [] ∧ Pls x ∧ x.length ≤ i) (fun i x s => (waysL n cs).length - i) 0 [] ⟨none, 0⟩ rfl (by repeat (first | exact trivial | refine ⟨rfl, ?_⟩)) (er (er (er0 Ent.nil))) ⟨by omega, rfl, (fun p hp => by cases hp), by simp⟩ (fun i x s hi => ?_)
    obtain ⟨i1, i2, i3, i4⟩ := hi
    have hto := fun h => hwp.at (i := (i : Int)) ⟨by omega, h⟩
    have hto2 := fun h => neigh_b (hto h)
    repeat' (first
     | (refine kO ?_; first | refine gv rfl rfl ?_ | refine gnil ?_ | refine gl rfl (lvb rfl rfl) rfl (fun _ => ?_) | refine gl rfl (lvB rfl rfl rfl) rfl (fun _ => ?_) | refine gl rfl (lve rfl rfl) rfl (fun _ => ?_) | refine gl rfl (lvE rfl rfl rfl) rfl (fun _ => ?_) | refine gl rfl (lva rfl rfl rfl rfl rfl) rfl (fun _ => ?_) | refine gp rfl (by (try simp only [InR]); omega) rfl ?_ | refine gix rfl rfl rfl rfl (by omega) rfl (fun _ => ?_) | refine gixa rfl rfl rfl rfl (by omega) rfl (fun _ => ?_) | (refine kK ?_; first | refine gcall rfl ?_ rfl (fun _ _ => ?_) (fun _ _ => ?_) | refine gcv rfl rfl ?_ rfl (fun _ _ => ?_) (fun _ _ => ?_) | refine gcc1 rfl rfl ?_ rfl (fun _ _ => ?_) (fun _ _ => ?_)) | refine gneq rfl rfl (by kernel_rfl) ?_ rfl ?_ | refine ga rfl (fun _ => ?_) (fun _ => ?_) | refine gst rfl rfl rfl rfl ?_ ?_ | refine ge rfl rfl rfl rfl ?_ ?_ | refine gea rfl rfl rfl rfl rfl rfl rfl ?_ ?_ | refine gw rfl rfl ?_ | (refine kg ?_; (first | refine guardT rfl rfl rfl rfl (fun h => ?_) (fun h => ?_) | refine guardF rfl rfl rfl rfl (fun h => ?_) (fun h => ?_) | refine guardU rfl rfl rfl rfl ?_ | refine guardTH rfl rfl rfl rfl ?_ (fun h => ?_) (fun h => ?_) | refine guardFH rfl rfl rfl rfl ?_ (fun h => ?_) (fun h => ?_) | refine guardUH rfl rfl rfl rfl ?_ ?_) <;> (first | exact h.elim | (exfalso; omega) | exact absurd h (by assumption) | exact absurd (by assumption) h | skip)))
     | (refine kC ?_; first | refine gseq ?_ | refine greg ?_ | refine gret ?_ | refine gskip ?_ | (refine gcond rfl (fun h => ?_) (fun h => ?_) <;> (first | exact h.elim | (exfalso; omega) | exact absurd h (by assumption) | exact absurd (by assumption) h | skip)) | refine gblk ?_ | refine gexit ?_)
     | (refine kN ?_; first | refine gthen ?_ | refine gnblk ?_)
     | (refine kR ?_; first | refine grs ?_ | refine grb ?_ | refine grl ?_ | refine grc ?_)
     | (refine kX ?_; first | refine gxs ?_ | refine gxb ?_ | refine gxn rfl ?_ | refine gxl ?_ | refine gxc ?_)
     | (refine kR ?_; refine gr rfl (rvT rfl (rvT rfl rv0)) (⟨_, _, _⟩, _) rfl (er Ent.nil) ?_)
     | (refine kR ?_; refine gr rfl (rvT rfl (rvT rfl rv0)) (⟨⟨none, 0⟩, 0, []⟩, _) rfl (er0 Ent.nil) ?_)
     | exact Pre.mk (hto (by assumption))
     | exact Pre.mk ⟨treesN_pls n, hto (by assumption)⟩
     | exact Pre.mk ⟨hwp, hto2 (by assumption)⟩
     | exact Pre.mk ⟨i3, hto2 (by assumption), by omega⟩
     | (refine Pre.mk ?_; first | exact True.intro | omega | ((repeat' (first | refine And.intro ?_ ?_ | exact True.intro | assumption | omega)); done) | (simp only [and_true, true_and, or_true, true_or]; first | done | omega))
     | (refine kD ?_; first | exact dm_none))
    · rename_i s' _
      have hi1 : (i : Int) < (waysL n cs).length := by assumption
      have hst : (waysL n cs).drop i = ixd (waysL n cs) i :: (waysL n cs).drop (i + 1) := drop_ixd (by omega)
      have hl : (withL x (neighG (ixd (waysL n cs) i))).length ≤ x.length + 1 := withL_len
      rw [hst, List.foldl_cons, refQ, if_pos ⟨by assumption, h⟩] at i2
      refine gnl3 (i + 1) _ s' (by repeat (first | exact trivial | refine ⟨rfl, ?_⟩)) (er (er (er Ent.nil))) ⟨by omega, i2, withL_pls i3 (hto2 hi1), by omega⟩ (by omega)
    · have hi1 : (i : Int) < (waysL n cs).length := by assumption
      have hst : (waysL n cs).drop i = ixd (waysL n cs) i :: (waysL n cs).drop (i + 1) := drop_ixd (by omega)
      rw [hst, List.foldl_cons, refQ, if_neg (fun hc => hc.2 h)] at i2
      refine gnl3 (i + 1) x s (by repeat (first | exact trivial | refine ⟨rfl, ?_⟩)) (er (er (er Ent.nil))) ⟨by omega, i2, i3, by omega⟩ (by omega)
    · have hi1 : (i : Int) < (waysL n cs).length := by assumption
      have hst : (waysL n cs).drop i = ixd (waysL n cs) i :: (waysL n cs).drop (i + 1) := drop_ixd (by omega)
      have hm : ixd (waysL n cs) i ∈ treesN n := by assumption
      rw [hst, List.foldl_cons, refQ, if_neg (fun hc => hc.1 hm)] at i2
      refine gnl3 (i + 1) x s (by repeat (first | exact trivial | refine ⟨rfl, ?_⟩)) (er (er (er Ent.nil))) ⟨by omega, i2, i3, by omega⟩ (by omega)
    · show x = needsL n cs ∧ 0 = waysE n cs
      have e : (waysL n cs).drop i = [] := List.drop_eq_nil_of_le (by omega)
      rw [e] at i2
      unfold needsL waysE; rw [if_pos hb, if_pos hb]
      exact ⟨(show x = _ from i2).trans (refQ_eq (waysL_mem hb)), rfl⟩
instance c_ref15_Needs {n : Int} {csA : Option Addr} {csc csn : Nat} {cs : List UInt64} {w0 : World} {X : Nat → Prop} {L : List Assn} [hcs : Rw w0 X L (.slice csA csn csc) RU cs] : Ctr Try.prog 11 [.int .u64 n, .slice csA csn csc] w0 X L (0 ≤ n) (fun s0 : Sv => .tuple #[.slice s0.A (needsL n cs).length s0.c, .int .i64 (waysE n cs)]) (fun s0 : Sv => rw_ 32 RPl s0 (needsL n cs).length (needsL n cs) :: L) (fun s0 : Sv => True) :=
  ctr' (M' := (fun s0 : Sv => [rw_ 32 RPl s0 (needsL n cs).length (needsL n cs)])) (by kernel_rfl) (fun hp w hw => by have ecs := hcs.len hw; subst ecs; exact ref15_Needs _ _ _ _ w (hcs.get w hw) hp) (by rintro hp ⟨⟨s0, n0, x0⟩, e1⟩ ⟨rfl, rfl⟩ ok; cases ok.row; exact ⟨s0, rfl, rfl, trivial⟩)
end Go.Proofs.Ytjiglibogmehfaa
