/-
  Places: sorted, ways, Ways, Needs.
-/
import Derived.Test.YtjiglibogmehfaaPc
import Derived.Test.YtjiglibogmehfaaSort
set_option linter.all false
set_option maxRecDepth 100000
namespace Go.Proofs.Ytjiglibogmehfaa
open Go.RowKit

theorem sortP_eq {l l' : List PlG} (h : l.Perm l') : sortP l = sortP l' := by
  have tr : ∀ a b c : PlG, (!(Go.Proofs.ltOf cmpP) b a) = true → (!(Go.Proofs.ltOf cmpP) c b) = true → (!(Go.Proofs.ltOf cmpP) c a) = true := fun a b c h1 h2 => by
    simp only [Bool.not_eq_true'] at *
    exact swoP.ntrans c b a h2 h1
  have to : ∀ a b : PlG, ((!(Go.Proofs.ltOf cmpP) b a) || (!(Go.Proofs.ltOf cmpP) a b)) = true := fun a b => by
    rw [ltP, ltP]
    simp only [Bool.or_eq_true, Bool.not_eq_true', decide_eq_false_iff_not]; omega
  have p1 := List.pairwise_mergeSort tr to l
  have p2 := List.pairwise_mergeSort tr to l'
  refine List.Perm.eq_of_pairwise (le := fun a b => (!(Go.Proofs.ltOf cmpP) b a) = true) (fun a b _ _ h1 h2 => totP a b (by simpa using h2) (by simpa using h1)) p1 p2 ((sortP_perm l).trans (h.trans (sortP_perm l').symm))
theorem pl_sorted (w0 : World) (Y : Nat → Prop) (r : Nat) (m : List (PlG × Int)) (hst : St w0 Y [mpA Try.prog 32 RPl VInt r m] w0) (hm : m.length ≤ 100000) :
    Ct Try.prog 30 [.map (some r)] w0 Y (fun (⟨s0, n0, x0⟩ : Br PlG) => .slice s0.A n0 s0.c) (fun ⟨s0, n0, x0⟩ => [rw_ 32 RPl s0 n0 x0]) (fun ⟨s0, n0, x0⟩ => x0 = sortP (m.map (·.1))) := by
  refine genter _ hst Try.func30 rfl rfl rfl rfl ?_
  repeat' (first
   | (refine kO ?_; first | refine gv rfl rfl ?_ | refine gnil ?_ | refine gl rfl (lvb rfl rfl) rfl (fun _ => ?_) | refine gl rfl (lvB rfl rfl rfl) rfl (fun _ => ?_) | refine gl rfl (lve rfl rfl) rfl (fun _ => ?_) | refine gl rfl (lvE rfl rfl rfl) rfl (fun _ => ?_) | refine gl rfl (lva rfl rfl rfl rfl rfl) rfl (fun _ => ?_) | (refine kK ?_; first | refine gcall rfl ?_ rfl (fun _ _ => ?_) (fun _ _ => ?_) | refine gcv rfl rfl ?_ rfl (fun _ _ => ?_) (fun _ _ => ?_) | refine gcc1 rfl rfl ?_ rfl (fun _ _ => ?_) (fun _ _ => ?_)) | refine ga rfl (fun _ => ?_) (fun _ => ?_) | refine gst rfl rfl rfl rfl ?_ ?_ | refine ge rfl rfl rfl rfl ?_ ?_ | refine gea rfl rfl rfl rfl rfl rfl rfl ?_ ?_ | refine gap rfl rfl rfl (by omega) rfl (fun _ => ?_) (fun _ => ?_) | refine gan rfl rfl rfl (by omega) rfl (fun _ => ?_) (fun _ => ?_) | refine gapz rfl rfl rfl rfl (by omega) rfl (fun _ => ?_) (fun _ => ?_) | refine ganz rfl rfl rfl rfl (by omega) rfl (fun _ => ?_) (fun _ => ?_) | refine gbs RB rfl rfl rfl rfl rfl rfl (fun _ => ?_) (fun _ => ?_) | refine gbb rfl rfl rfl (by first | (simp; done) | (simp only [and_true]; omega)) rfl rfl rfl rfl (fun _ => ?_) (fun _ => ?_) | refine gMr rfl rfl rfl (fun _ => ?_) (fun _ => ?_) | refine gMn rfl rfl ?_ (fun _ => ?_) (fun h => ?_) (fun _ _ h => ?_) | refine gMv rfl rfl ?_ ?_)
   | (refine kC ?_; first | refine gseq ?_ | refine greg ?_ | refine gret ?_ | refine gskip ?_ | (refine gcond rfl (fun h => ?_) (fun h => ?_) <;> (first | exact h.elim | (exfalso; omega) | exact absurd h (by assumption) | exact absurd (by assumption) h | skip)) | refine gblk ?_ | refine gexit ?_)
   | (refine kN ?_; first | refine gthen ?_ | refine gnblk ?_)
   | (refine kR ?_; first | refine grs ?_ | refine grb ?_ | refine grl ?_ | refine grc ?_)
   | (refine kX ?_; first | refine gxs ?_ | refine gxb ?_ | refine gxn rfl ?_ | refine gxl ?_ | refine gxc ?_)
   | (refine kR ?_; refine gr rfl (rvT rfl rv0) (⟨_, _, _⟩) rfl (er Ent.nil) ?_)
   | (refine kR ?_; refine gr rfl (rvT rfl rv0) (⟨⟨none, 0⟩, 0, []⟩) rfl (er0 Ent.nil) ?_)
   | (refine Pre.mk ?_; first | exact True.intro | omega | ((repeat' (first | refine And.intro ?_ ?_ | exact True.intro | assumption | omega)); done) | (simp only [and_true, true_and, or_true, true_or]; first | done | omega))
   | (refine kD ?_; first | exact dm_none))
  rename_i it
  refine gloop3 [6] (fun (j : Nat) (done : List (PlG × Int)) (s : Sv) K => (3, .slice s.A j s.c) :: K) (fun j done s => [rw_ 32 RPl s j (done.map (·.1)), rgA Try.prog 32 RPl VInt it r m done]) (fun j done s => j = done.length ∧ ∃ l, (done ++ l).Perm m) (fun j done s => m.length - j) 0 [] ⟨none, 0⟩ rfl (by repeat (first | exact trivial | refine ⟨rfl, ?_⟩)) (er0 (by infer_instance)) ⟨rfl, m, List.Perm.refl _⟩ (fun j done s hi => ?_)
  obtain ⟨hj, l0, hl0⟩ := hi
  have hjm : j ≤ m.length := by have := hl0.length_eq; simp at this; omega
  repeat' (first
   | (refine kO ?_; first | refine gbs RPl rfl rfl rfl rfl rfl rfl (fun _ => ?_) (fun _ => ?_) | refine gv rfl rfl ?_ | refine gnil ?_ | refine gl rfl (lvb rfl rfl) rfl (fun _ => ?_) | refine gl rfl (lvB rfl rfl rfl) rfl (fun _ => ?_) | refine gl rfl (lve rfl rfl) rfl (fun _ => ?_) | refine gl rfl (lvE rfl rfl rfl) rfl (fun _ => ?_) | refine gl rfl (lva rfl rfl rfl rfl rfl) rfl (fun _ => ?_) | (refine kK ?_; first | refine gcall rfl ?_ rfl (fun _ _ => ?_) (fun _ _ => ?_) | refine gcv rfl rfl ?_ rfl (fun _ _ => ?_) (fun _ _ => ?_) | refine gcc1 rfl rfl ?_ rfl (fun _ _ => ?_) (fun _ _ => ?_)) | refine ga rfl (fun _ => ?_) (fun _ => ?_) | refine gst rfl rfl rfl rfl ?_ ?_ | refine ge rfl rfl rfl rfl ?_ ?_ | refine gea rfl rfl rfl rfl rfl rfl rfl ?_ ?_ | refine gap rfl rfl rfl (by omega) rfl (fun _ => ?_) (fun _ => ?_) | refine gan rfl rfl rfl (by omega) rfl (fun _ => ?_) (fun _ => ?_) | refine gapz rfl rfl rfl rfl (by omega) rfl (fun _ => ?_) (fun _ => ?_) | refine ganz rfl rfl rfl rfl (by omega) rfl (fun _ => ?_) (fun _ => ?_) | refine gbs RB rfl rfl rfl rfl rfl rfl (fun _ => ?_) (fun _ => ?_) | refine gbb rfl rfl rfl (by first | (simp; done) | (simp only [and_true]; omega)) rfl rfl rfl rfl (fun _ => ?_) (fun _ => ?_) | refine gMr rfl rfl rfl (fun _ => ?_) (fun _ => ?_) | refine gMn rfl rfl ?_ (fun _ => ?_) (fun h => ?_) (fun _ _ h => ?_) | refine gMv rfl rfl ?_ ?_)
   | (refine kC ?_; first | refine gseq ?_ | refine greg ?_ | refine gret ?_ | refine gskip ?_ | (refine gcond rfl (fun h => ?_) (fun h => ?_) <;> (first | exact h.elim | (exfalso; omega) | exact absurd h (by assumption) | exact absurd (by assumption) h | skip)) | refine gblk ?_ | refine gexit ?_)
   | (refine kN ?_; first | refine gthen ?_ | refine gnblk ?_)
   | (refine kR ?_; first | refine grs ?_ | refine grb ?_ | refine grl ?_ | refine grc ?_)
   | (refine kX ?_; first | refine gxs ?_ | refine gxb ?_ | refine gxn rfl ?_ | refine gxl ?_ | refine gxc ?_)
   | (refine kR ?_; refine gr rfl (rvT rfl rv0) (⟨_, _, _⟩) rfl (er Ent.nil) ?_)
   | (refine kR ?_; refine gr rfl (rvT rfl rv0) (⟨⟨none, 0⟩, 0, []⟩) rfl (er0 Ent.nil) ?_)
   | (refine Pre.mk ?_; first | exact True.intro | omega | ((repeat' (first | refine And.intro ?_ ?_ | exact True.intro | assumption | omega)); done) | (simp only [and_true, true_and, or_true, true_or]; first | done | omega))
   | (refine kD ?_; first | exact dm_none))
  · exact sortP_eq ((show done.Perm m by assumption).map _)
  · rename_i p l h0 g _ s1 s'
    have h : (done ++ p :: l).Perm m := by rename_i h1; first | exact h0.1 | exact h1.1 | (have := ‹(done ++ p :: l).Perm m ∧ KV _ _ _›; exact this.1)
    refine gnl3 (j + 1) (done ++ [p]) s' (by repeat (first | exact trivial | refine ⟨rfl, ?_⟩)) ?_ ⟨by simp [hj], l, by simpa using h⟩ ?_
    · simp only [List.map_append, List.map_cons, List.map_nil]; exact er (ec Ent.nil)
    · have := h.length_eq; simp at this; omega
instance sorted_ctr {w0 : World} {X : Nat → Prop} {L rest : List Assn} {r : Nat} {m : List (PlG × Int)} [hm : FMp L r Try.prog 32 RPl VInt m] [hs : Spl L [mpA Try.prog 32 RPl VInt r m] rest] :
    Ctr Try.prog 30 [.map (some r)] w0 X L (m.length ≤ 100000) (fun s : Sv => .slice s.A m.length s.c) (fun s => rw_ 32 RPl s m.length (sortP (m.map (·.1))) :: rest) (fun _ => True) :=
  ⟨by kernel_rfl, fun hp w hw => by
    obtain ⟨Y, h1, h2⟩ := hw.lendS hs
    refine (pl_sorted w Y r m h1 hp).mono fun e w' ⟨⟨s0, n0, x0⟩, he, hst, hφ⟩ => ?_
    have hx : x0 = sortP (m.map (·.1)) := hφ
    obtain ⟨k, hk, _⟩ := hst.get (i := 0) rfl
    have hl := hk.len
    subst hx
    have hn : n0 = m.length := by rw [← hl, sortP_len, List.length_map]
    subst hn
    exact ⟨s0, he, h2 _ _ hst, trivial⟩⟩
end Go.Proofs.Ytjiglibogmehfaa
