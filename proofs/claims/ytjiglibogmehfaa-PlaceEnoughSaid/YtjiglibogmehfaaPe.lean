/-
  Places: ways, Ways, Needs.
-/
import Derived.Test.YtjiglibogmehfaaPd
set_option linter.all false
set_option maxRecDepth 100000
namespace Go.Proofs.Ytjiglibogmehfaa
open Go.RowKit

section
variable {P : Program} {w0 : World} {X : Nat → Prop} {L : List Assn} {K β : Type} {R : Rep K} {V : β → Value} {m : List (K × β)} {t kt et : TypeId} {r : Nat} {s' : List Cs} {p : Prop} {z0 : β}
set_option synthInstance.checkSynthOrder false in
instance Mp.ms {k : K} {st : Nat} [h : FMs L r P kt R V m k st] : Mp w0 X L r P kt R V m := ⟨fun w hw => by
  obtain ⟨kk, ⟨es, clock, rfl, ok, _⟩, hs⟩ := hw.getM h.get
  exact ⟨es, clock, hs.one, ok⟩⟩
variable [DecidableEq K]
theorem touch_get {k : K} : (mlook (mtouch m k z0) k).getD z0 = (mlook m k).getD z0 := by
  unfold mtouch
  split
  · rfl
  · rename_i h
    rw [mlook_none.2 h]
    unfold mlook
    rw [List.find?_append]
    have : m.find? (fun p => decide (p.1 = k)) = none := by
      have := mlook_none.2 h
      unfold mlook at this
      simpa using this
    rw [this]; simp
theorem lkM {k : K} {u u' : Value} [hm : Mp w0 X L r P kt R V m] (ht : P.underlying t = some (.map kt et)) [hK : MKey P kt R] [hk : Elm R (Ag s') k] [hq : KVc P kt s' p] [hz : VZ P et V z0] [hV : VOf V ((mlook m k).getD z0) u'] (hp : Pre p) (e : u' = u) :
    ∀ w, St w0 X L w → (Instr.lookup t (.map (some r)) (Ag s') false).run P w = .ok u w := fun w hw => by
  obtain ⟨es, clock, h1, ok⟩ := hm.get w hw
  rw [key_eq (R := R) (k := k), ← e, ← hV.h]
  exact run_lookup1 ht h1 ok (key_kv (R := R) (k := k) (s' := s') hp) hz.h
end
def climb (t : PlG) : Nat → PlG → List PlG → List PlG
  | 0, _, ks => ks
  | f + 1, p, ks => if p ∈ ks then ks else if p = t then ks ++ [p] else climb t f (parentG p) (ks ++ [p])
def waysK (n : Int) : List UInt64 → List PlG → List PlG
  | [], ks => ks
  | c :: r, ks => waysK n r (climb (treeP n (c.toNat : Int)) 21 ⟨0, (c.toNat : Int)⟩ ks)
def one_ (p : PlG) : PlG × Int := (p, 1)
theorem mlook_one {ks : List PlG} {p : PlG} : (mlook (ks.map one_) p).getD 0 = if p ∈ ks then 1 else 0 := by
  induction ks with
  | nil => rfl
  | cons a ks ih =>
    unfold mlook at ih ⊢
    rw [List.map_cons, List.find?_cons]
    by_cases h : a = p
    · subst h; simp [one_]
    · have h2 : ¬ p = a := fun e => h e.symm
      simp only [one_, h, decide_false, List.mem_cons, h2, false_or]
      exact ih
theorem mset_one {ks : List PlG} {p : PlG} (h : p ∉ ks) : mset (mtouch (ks.map one_) p 0) p 1 = (ks ++ [p]).map one_ := by
  have h1 : ¬ mhas (ks.map one_) p := by unfold mhas; simpa [one_] using h
  unfold mtouch
  rw [if_neg h1]
  unfold mset
  rw [List.map_append, List.map_append]
  congr 1
  · rw [List.map_map]
    apply List.map_congr_left
    intro q hq
    have : q ≠ p := fun e => h (e ▸ hq)
    simp [one_, this]
  · simp [one_]
theorem trees_cover (c : Nat) : ∀ (n f j : Nat), n < 2 ^ j → 2 ^ j ∣ f → f ≤ c → c < f + n → ∃ p ∈ trees f n, treeQ (c : Int) p = true := by
  intro n
  induction n using Nat.strongRecOn with
  | _ n ih =>
    intro f j hj hd hc1 hc2
    have h0 : n ≠ 0 := by omega
    have hl := (Nat.log2_eq_iff h0).1 rfl
    have hpos := Nat.two_pow_pos (Nat.log2 n)
    have hlj : Nat.log2 n < j := (Nat.log2_lt h0).2 hj
    have hdv : 2 ^ Nat.log2 n ∣ f := Nat.dvd_trans (Nat.pow_dvd_pow 2 (Nat.le_of_lt hlj)) hd
    rw [trees_step h0]
    by_cases hc : c < f + 2 ^ Nat.log2 n
    · refine ⟨_, List.mem_cons_self .., ?_⟩
      unfold treeQ
      rw [decide_eq_true_iff]
      obtain ⟨q, rfl⟩ := hdv
      have e : c / 2 ^ Nat.log2 n = 2 ^ Nat.log2 n * q / 2 ^ Nat.log2 n := by
        rw [Nat.mul_div_cancel_left _ hpos, Nat.div_eq_of_lt_le]
        · rw [Nat.mul_comm]; exact hc1
        · rw [Nat.add_mul, Nat.mul_comm q]; omega
      show (c : Int) / 2 ^ ((Nat.log2 n : Nat) : Int).toNat = ((2 ^ Nat.log2 n * q / 2 ^ Nat.log2 n : Nat) : Int)
      rw [← e]; simp
    · obtain ⟨p, hp, hq⟩ := ih (n - 2 ^ Nat.log2 n) (by omega) (f + 2 ^ Nat.log2 n) (Nat.log2 n) (by rw [Nat.pow_succ] at hl; omega) ((Nat.dvd_add_right hdv).2 (Nat.dvd_refl _)) (by omega) (by omega)
      exact ⟨p, List.mem_cons_of_mem _ hp, hq⟩
theorem idxG_at {q : PlG → Bool} : ∀ {l : List PlG} {k : Int}, 0 ≤ k → 0 ≤ idxG q l k → q (ixd l (idxG q l k - k)) = true
  | [], k, h, h' => by simp [idxG] at h'
  | p :: r, k, h, h' => by
    unfold idxG at h' ⊢
    split
    · rename_i h1
      rw [Int.sub_self]; exact h1
    · rename_i h1
      rw [if_neg h1] at h'
      have h2 := idxG_at (l := r) (k := k + 1) (by omega) h'
      have h3 := idxG_b q r (k + 1)
      rw [ixd_eq (by omega)] at h2
      rw [ixd_eq (by simp; omega)]
      have e : (idxG q r (k + 1) - k).toNat = (idxG q r (k + 1) - (k + 1)).toNat + 1 := by omega
      simp only [e, List.getElem_cons_succ]; exact h2
theorem tree_found {n : Int} {c : Nat} (h : (c : Int) < n) (hn : n ≤ 1048576) : treeQ (c : Int) (treeP n c) = true ∧ treeB n c = true := by
  have h1 : 0 ≤ treeI n c := by
    unfold treeI treesN
    rw [if_pos hn, idxG_mem (Int.le_refl 0)]
    exact trees_cover c n.toNat 0 21 (by omega) (Nat.dvd_zero _) (by omega) (by omega)
  refine ⟨?_, decide_eq_true h1⟩
  have e : treeP n c = ixd (treesN n) (treeI n c) := if_neg (by omega)
  rw [e]
  have := idxG_at (q := treeQ c) (l := treesN n) (k := 0) (Int.le_refl 0) h1
  rw [Int.sub_zero] at this; exact this
theorem pl_ways (n : Int) (csA : Option Addr) (csc : Nat) (cs : List UInt64) (w0 : World) (hcs : Slr w0 RU (.slice csA cs.length csc) cs) (hp : 0 ≤ n ∧ mayB n cs = true) :
    Ct Try.prog 31 [.int .u64 n, .slice csA cs.length csc] w0 no (fun r : Nat => .map (some r)) (fun r => [mpA Try.prog 32 RPl VInt r ((waysK n cs []).map one_)]) (fun _ => True) := by
  have hst := St.start w0
  have i_cs := Rw.old hcs
  have hmay : MayC n cs := by have h := hp.2; unfold mayB at h; simpa using h
  have hcap := hmay.2.2
  refine genter _ hst Try.func31 rfl rfl rfl rfl ?_
  repeat' (first
   | (refine kO ?_; first | refine gv rfl rfl ?_ | refine gnil ?_ | refine gnilD ?_ | refine gl rfl (lvb rfl rfl) rfl (fun _ => ?_) | refine gl rfl (lvB rfl rfl rfl) rfl (fun _ => ?_) | refine gl rfl (lve rfl rfl) rfl (fun _ => ?_) | refine gl rfl (lvE rfl rfl rfl) rfl (fun _ => ?_) | refine gl rfl (lva rfl rfl rfl rfl rfl) rfl (fun _ => ?_) | refine gp rfl (by (try simp only [InR]); omega) rfl ?_ | refine gix rfl rfl rfl rfl (by omega) rfl (fun _ => ?_) | refine gixa rfl rfl rfl rfl (by omega) rfl (fun _ => ?_) | (refine kK ?_; first | refine gcall rfl ?_ rfl (fun _ _ => ?_) (fun _ _ => ?_) | refine gcv rfl rfl ?_ rfl (fun _ _ => ?_) (fun _ _ => ?_) | refine gcc1 rfl rfl ?_ rfl (fun _ _ => ?_) (fun _ _ => ?_)) | refine geql rfl rfl (by kernel_rfl) ?_ rfl ?_ | refine gbu rfl rfl rfl rfl rfl ?_ | refine ga rfl (fun _ => ?_) (fun _ => ?_) | refine gst rfl rfl rfl rfl ?_ ?_ | refine ge rfl rfl rfl rfl ?_ ?_ | refine gea rfl rfl rfl rfl rfl rfl rfl ?_ ?_ | refine gMl rfl rfl rfl ?_ rfl ?_ | refine gMl2 rfl rfl rfl ?_ rfl ?_ | refine gMe rfl rfl rfl ?_ rfl (fun _ => ?_) (fun _ => ?_) | refine gMs rfl rfl rfl rfl ?_ ?_ | refine gMk RPl VInt rfl rfl (fun _ => ?_) (fun _ => ?_) | refine gw rfl rfl ?_)
   | (refine kC ?_; first | refine gseq ?_ | refine greg ?_ | refine gret ?_ | refine gskip ?_ | refine gdraw (id := 9) [0,1,2,3,4,5,6] (by kernel_rfl) (by kernel_rfl) rfl ?_ | (refine gcond rfl (fun h => ?_) (fun h => ?_) <;> (first | exact h.elim | (exfalso; omega) | exact absurd h (by assumption) | exact absurd (by assumption) h | skip)) | refine gblk ?_ | refine gexit ?_)
   | (refine kN ?_; first | refine gthen ?_ | refine gnblk ?_)
   | (refine kR ?_; first | refine grs ?_ | refine grb ?_ | refine grl ?_ | refine grc ?_)
   | (refine kX ?_; first | refine gxs ?_ | refine gxb ?_ | refine gxn rfl ?_ | refine gxl ?_ | refine gxc ?_)
   | (refine kR ?_; refine gr rfl (rvT rfl rv0) (_) rfl Ent.nil ?_)
   | (refine Pre.mk ?_; first | exact True.intro | omega | ((repeat' (first | refine And.intro ?_ ?_ | exact True.intro | assumption | omega)); done) | (simp only [and_true, true_and, or_true, true_or]; first | done | omega))
   | (refine kD ?_; first | exact dm_none | exact dm0 | refine dmOff rfl ?_ | refine dmOn (lkM rfl ?_ (by simp only [touch_get])) ?_ | refine dmOn (lvb rfl rfl) ?_ | refine dmOn (lvB rfl rfl rfl) ?_ | refine dmOn (lve rfl rfl) ?_ | refine dmOn (lvE rfl rfl rfl) ?_ | refine dmOn (lva rfl rfl rfl rfl rfl) ?_))
  rename_i r
  refine gloop2 [0, 5, 12, 13] (fun (i : Nat) (ks : List PlG) K => (14, .int .i64 i) :: K) (fun i ks => [mpA Try.prog 32 RPl VInt r (ks.map one_)]) (fun i ks => i ≤ cs.length ∧ waysK n (cs.drop i) ks = waysK n cs []) (fun i ks => cs.length - i) 0 [] rfl (by repeat (first | exact trivial | refine ⟨rfl, ?_⟩)) (show Ent _ [mpA Try.prog 32 RPl VInt r []] from ec Ent.nil) ⟨by omega, rfl⟩ (fun i ks hi => ?_)
  repeat' (first
   | (refine kO ?_; first | refine gv rfl rfl ?_ | refine gnil ?_ | refine gnilD ?_ | refine gl rfl (lvb rfl rfl) rfl (fun _ => ?_) | refine gl rfl (lvB rfl rfl rfl) rfl (fun _ => ?_) | refine gl rfl (lve rfl rfl) rfl (fun _ => ?_) | refine gl rfl (lvE rfl rfl rfl) rfl (fun _ => ?_) | refine gl rfl (lva rfl rfl rfl rfl rfl) rfl (fun _ => ?_) | refine gp rfl (by (try simp only [InR]); omega) rfl ?_ | refine gix rfl rfl rfl rfl (by omega) rfl (fun _ => ?_) | refine gixa rfl rfl rfl rfl (by omega) rfl (fun _ => ?_) | (refine kK ?_; first | refine gcall rfl ?_ rfl (fun _ _ => ?_) (fun _ _ => ?_) | refine gcv rfl rfl ?_ rfl (fun _ _ => ?_) (fun _ _ => ?_) | refine gcc1 rfl rfl ?_ rfl (fun _ _ => ?_) (fun _ _ => ?_)) | refine geql rfl rfl (by kernel_rfl) ?_ rfl ?_ | refine gbu rfl rfl rfl rfl rfl ?_ | refine ga rfl (fun _ => ?_) (fun _ => ?_) | refine gst rfl rfl rfl rfl ?_ ?_ | refine ge rfl rfl rfl rfl ?_ ?_ | refine gea rfl rfl rfl rfl rfl rfl rfl ?_ ?_ | refine gMl rfl rfl rfl ?_ rfl ?_ | refine gMl2 rfl rfl rfl ?_ rfl ?_ | refine gMe rfl rfl rfl ?_ rfl (fun _ => ?_) (fun _ => ?_) | refine gMs rfl rfl rfl rfl ?_ ?_ | refine gMk RPl VInt rfl rfl (fun _ => ?_) (fun _ => ?_) | refine gw rfl rfl ?_)
   | (refine kC ?_; first | refine gseq ?_ | refine greg ?_ | refine gret ?_ | refine gskip ?_ | refine gdraw (id := 9) [0,1,2,3,4,5,6] (by kernel_rfl) (by kernel_rfl) rfl ?_ | (refine gcond rfl (fun h => ?_) (fun h => ?_) <;> (first | exact h.elim | (exfalso; omega) | exact absurd h (by assumption) | exact absurd (by assumption) h | skip)) | refine gblk ?_ | refine gexit ?_)
   | (refine kN ?_; first | refine gthen ?_ | refine gnblk ?_)
   | (refine kR ?_; first | refine grs ?_ | refine grb ?_ | refine grl ?_ | refine grc ?_)
   | (refine kX ?_; first | refine gxs ?_ | refine gxb ?_ | refine gxn rfl ?_ | refine gxl ?_ | refine gxc ?_)
   | (refine kR ?_; refine gr rfl (rvT rfl rv0) (_) rfl Ent.nil ?_)
   | (refine Pre.mk ?_; first | exact True.intro | omega | ((repeat' (first | refine And.intro ?_ ?_ | exact True.intro | assumption | omega)); done) | (simp only [and_true, true_and, or_true, true_or]; first | done | omega))
   | (refine kD ?_; first | exact dm_none | exact dm0 | refine dmOff rfl ?_ | refine dmOn (lkM rfl ?_ (by simp only [touch_get])) ?_ | refine dmOn (lvb rfl rfl) ?_ | refine dmOn (lvB rfl rfl rfl) ?_ | refine dmOn (lve rfl rfl) ?_ | refine dmOn (lvE rfl rfl rfl) ?_ | refine dmOn (lva rfl rfl rfl rfl rfl) ?_))
  · rename_i g8 g10
    have hc := (hmay.1 i (by omega)).1
    obtain ⟨hq, _⟩ := tree_found hc hmay.2.1
    have hto := treeP_ok n ((ixd cs (i : Int)).toNat : Int)
    have hw1 : waysK n (cs.drop (i + 1)) (climb (treeP n ((ixd cs (i : Int)).toNat : Int)) 21 ⟨0, ((ixd cs (i : Int)).toNat : Int)⟩ ks) = waysK n cs [] := by
      have hd := drop_ixd (l := cs) (i := i) (by omega)
      rw [← hi.2, hd]; rfl
    have hi1 : (i : Int) < cs.length := by assumption
    generalize hcn : (ixd cs (i : Int)).toNat = cn at *
    generalize ht : treeP n (cn : Int) = t at *
    refine gloop4 [0, 5, 8, 12, 13, 14] (fun (k : Nat) (p : PlG) (ks' : List PlG) (g : Nat) K => (10, .pointer (some ⟨g, 0, none⟩)) :: K) (fun k p ks' g => [boxA g 32 [.one (.int .u8 p.row), .one (.int .u64 p.at_)], boxA g8 32 [.one (.int .u8 t.row), .one (.int .u64 t.at_)], mpA Try.prog 32 RPl VInt r (ks'.map one_)]) (fun k p ks' g => p = ⟨(k : Nat), ((cn / 2 ^ k : Nat) : Int)⟩ ∧ (k : Int) ≤ t.row ∧ climb t (21 - k) p ks' = climb t 21 ⟨0, cn⟩ ks) (fun k p ks' g => 21 - k) 0 ⟨0, cn⟩ ks g10 rfl (by repeat (first | exact trivial | refine ⟨rfl, ?_⟩)) (eb (eb (ec Ent.nil))) ⟨by simp, by omega, rfl⟩ (fun k p ks' g hk => ?_)
    obtain ⟨hpe, hkt, hcl⟩ := hk
    have hdl : cn / 2 ^ k ≤ cn := Nat.div_le_self _ _
    have hpr : p.row = (k : Int) := by rw [hpe]
    have hpa : p.at_ = ((cn / 2 ^ k : Nat) : Int) := by rw [hpe]
    have hpa0 : 0 ≤ p.at_ := by rw [hpa]; exact Int.natCast_nonneg _
    have hpa1 : p.at_ ≤ (cn : Int) := by rw [hpa]; exact Int.ofNat_le.2 hdl
    have hpk : 0 ≤ p.row ∧ p.row ≤ 255 ∧ 0 ≤ p.at_ ∧ p.at_ ≤ 18446744073709551615 := by omega
    repeat' (first
     | (refine kO ?_; first | refine gv rfl rfl ?_ | refine gnil ?_ | refine gnilD ?_ | refine gl rfl (lvb rfl rfl) rfl (fun _ => ?_) | refine gl rfl (lvB rfl rfl rfl) rfl (fun _ => ?_) | refine gl rfl (lve rfl rfl) rfl (fun _ => ?_) | refine gl rfl (lvE rfl rfl rfl) rfl (fun _ => ?_) | refine gl rfl (lva rfl rfl rfl rfl rfl) rfl (fun _ => ?_) | refine gp rfl (by (try simp only [InR]); omega) rfl ?_ | refine gix rfl rfl rfl rfl (by omega) rfl (fun _ => ?_) | refine gixa rfl rfl rfl rfl (by omega) rfl (fun _ => ?_) | (refine kK ?_; first | refine gcall rfl ?_ rfl (fun _ _ => ?_) (fun _ _ => ?_) | refine gcv rfl rfl ?_ rfl (fun _ _ => ?_) (fun _ _ => ?_) | refine gcc1 rfl rfl ?_ rfl (fun _ _ => ?_) (fun _ _ => ?_)) | refine geql rfl rfl (by kernel_rfl) ?_ rfl ?_ | refine gbu rfl rfl rfl rfl rfl ?_ | refine ga rfl (fun _ => ?_) (fun _ => ?_) | refine gst rfl rfl rfl rfl ?_ ?_ | refine ge rfl rfl rfl rfl ?_ ?_ | refine gea rfl rfl rfl rfl rfl rfl rfl ?_ ?_ | refine gMl rfl rfl rfl ?_ rfl ?_ | refine gMl2 rfl rfl rfl ?_ rfl ?_ | refine gMe rfl rfl rfl ?_ rfl (fun _ => ?_) (fun _ => ?_) | refine gMs rfl rfl rfl rfl ?_ ?_ | refine gMk RPl VInt rfl rfl (fun _ => ?_) (fun _ => ?_) | refine gw rfl rfl ?_)
     | (refine kC ?_; first | refine gseq ?_ | refine greg ?_ | refine gret ?_ | refine gskip ?_ | refine gdraw (id := 9) [0,1,2,3,4,5,6] (by kernel_rfl) (by kernel_rfl) rfl ?_ | (refine gcond rfl (fun h => ?_) (fun h => ?_) <;> (first | exact h.elim | (exfalso; omega) | exact absurd h (by assumption) | exact absurd (by assumption) h | skip)) | refine gblk ?_ | refine gexit ?_)
     | (refine kN ?_; first | refine gthen ?_ | refine gnblk ?_)
     | (refine kR ?_; first | refine grs ?_ | refine grb ?_ | refine grl ?_ | refine grc ?_)
     | (refine kX ?_; first | refine gxs ?_ | refine gxb ?_ | refine gxn rfl ?_ | refine gxl ?_ | refine gxc ?_)
     | (refine kR ?_; refine gr rfl (rvT rfl rv0) (_) rfl Ent.nil ?_)
     | exact Pre.mk hpk
     | (refine Pre.mk ?_; first | exact True.intro | omega | ((repeat' (first | refine And.intro ?_ ?_ | exact True.intro | assumption | omega)); done) | (simp only [and_true, true_and, or_true, true_or]; first | done | omega))
     | (refine kD ?_; first | exact dm_none | exact dm0 | refine dmOff rfl ?_ | refine dmOn (lkM rfl ?_ (by simp only [touch_get])) ?_ | refine dmOn (lvb rfl rfl) ?_ | refine dmOn (lvB rfl rfl rfl) ?_ | refine dmOn (lve rfl rfl) ?_ | refine dmOn (lvE rfl rfl rfl) ?_ | refine dmOn (lva rfl rfl rfl rfl rfl) ?_))
    all_goals have hst : climb t (21 - k) p ks' = if p ∈ ks' then ks' else if p = t then ks' ++ [p] else climb t (20 - k) (parentG p) (ks' ++ [p]) := by rw [show 21 - k = (20 - k) + 1 by omega]; rfl
    · have h0 : (mlook (List.map one_ ks') p).getD 0 = 0 := by assumption
      have hn : p ∉ ks' := fun hm => by rw [mlook_one, if_pos hm] at h0; omega
      have hpt : p = t := by cases p; cases t; simp only [PlG.mk.injEq]; exact ⟨h.1, h.2.1⟩
      have e : mset (mtouch (ks'.map one_) p 0) p ((mlook (ks'.map one_) p).getD 0 + 1) = (ks' ++ [p]).map one_ := by rw [h0]; exact mset_one hn
      refine gnl2 (i + 1) (ks' ++ [p]) (by repeat (first | exact trivial | refine ⟨rfl, ?_⟩)) (show Ent _ [mpA Try.prog 32 RPl VInt r ((ks' ++ [p]).map one_)] from ?_) ⟨by omega, ?_⟩ (by omega)
      · rw [← e]; exact ec Ent.nil
      · rw [← hw1, ← hcl, hst, if_neg hn, if_pos hpt]
    · rename_i g' _ _ _
      have h0 : (mlook (List.map one_ ks') p).getD 0 = 0 := by assumption
      have hn : p ∉ ks' := fun hm => by rw [mlook_one, if_pos hm] at h0; omega
      have hpt : p ≠ t := fun e => h (by rw [e]; exact ⟨rfl, rfl, trivial⟩)
      have e : mset (mtouch (ks'.map one_) p 0) p ((mlook (ks'.map one_) p).getD 0 + 1) = (ks' ++ [p]).map one_ := by rw [h0]; exact mset_one hn
      have hkl : (k : Int) ≠ t.row := fun e1 => hpt (by
        unfold treeQ at hq
        have hq' := of_decide_eq_true hq
        cases t
        rw [hpe, PlG.mk.injEq]
        refine ⟨e1, ?_⟩
        simp only at e1 hq'
        rw [← hq', ← e1]; simp)
      refine gnl4 (k + 1) (parentG p) (ks' ++ [p]) g' (by repeat (first | exact trivial | refine ⟨rfl, ?_⟩)) (show Ent _ [boxA g' 32 [.one (.int .u8 (parentG p).row), .one (.int .u64 (parentG p).at_)], boxA g8 32 [.one (.int .u8 t.row), .one (.int .u64 t.at_)], mpA Try.prog 32 RPl VInt r ((ks' ++ [p]).map one_)] from ?_) ⟨?_, by omega, ?_⟩ (by omega)
      · rw [← e]; exact eb (eb (ec Ent.nil))
      · unfold parentG
        rw [PlG.mk.injEq, IntKind.wrap_u8, hpa]
        refine ⟨by omega, ?_⟩
        rw [Nat.pow_succ, ← Nat.div_div_eq_div_mul]; simp
      · rw [← hcl, hst, if_neg hn, if_neg hpt, show 21 - (k + 1) = 20 - k by omega]
    · have h0 : ¬ (mlook (List.map one_ ks') p).getD 0 = 0 := by assumption
      have hn : p ∈ ks' := Classical.byContradiction fun hm => h0 (by rw [mlook_one, if_neg hm])
      refine gnl2 (i + 1) ks' (by repeat (first | exact trivial | refine ⟨rfl, ?_⟩)) (ec Ent.nil) ⟨by omega, ?_⟩ (by omega)
      rw [← hw1, ← hcl, hst, if_pos hn]
  · refine gr rfl (rvT rfl rv0) r rfl (show Ent _ [mpA Try.prog 32 RPl VInt r ((waysK n cs []).map one_)] from ?_) trivial
    rw [← hi.2, List.drop_eq_nil_of_le (by omega)]; exact (show Ent _ [mpA Try.prog 32 RPl VInt r (ks.map one_)] from ec Ent.nil)
instance ways_ctr {n : Int} {csA : Option Addr} {csc csn : Nat} {cs : List UInt64} {w0 : World} {X : Nat → Prop} {L : List Assn} [hcs : Rw w0 X L (.slice csA csn csc) RU cs] :
    Ctr Try.prog 31 [.int .u64 n, .slice csA csn csc] w0 X L (0 ≤ n ∧ mayB n cs = true) (fun r : Nat => .map (some r)) (fun r => mpA Try.prog 32 RPl VInt r ((waysK n cs []).map one_) :: L) (fun _ => True) :=
  ctr (M := fun r => [mpA Try.prog 32 RPl VInt r ((waysK n cs []).map one_)]) (by kernel_rfl) (fun hp w hw => by have e := hcs.len hw; subst e; exact pl_ways n csA csc cs w (hcs.get w hw) hp)
theorem climb_len (t : PlG) : ∀ (f : Nat) (p : PlG) (ks : List PlG), (climb t f p ks).length ≤ ks.length + f
  | 0, p, ks => by unfold climb; omega
  | f + 1, p, ks => by
    unfold climb
    split
    · omega
    · split
      · simp
      · have := climb_len t f (parentG p) (ks ++ [p]); simp at this; omega
theorem waysK_len (n : Int) : ∀ (cs : List UInt64) (ks : List PlG), (waysK n cs ks).length ≤ ks.length + 21 * cs.length
  | [], ks => by unfold waysK; simp
  | c :: r, ks => by
    unfold waysK
    have h1 := waysK_len n r (climb (treeP n (c.toNat : Int)) 21 ⟨0, (c.toNat : Int)⟩ ks)
    have h2 := climb_len (treeP n (c.toNat : Int)) 21 ⟨0, (c.toNat : Int)⟩ ks
    simp only [List.length_cons]; omega
theorem map_one (ks : List PlG) : (ks.map one_).map (·.1) = ks := by
  rw [List.map_map]; exact List.map_id ks
noncomputable def waysL (n : Int) (cs : List UInt64) : List PlG := if mayB n cs = true then sortP (waysK n cs []) else []
noncomputable def waysE (n : Int) (cs : List UInt64) : Int := if mayB n cs = true then 0 else 2
theorem mayB_len {n : Int} {cs : List UInt64} (h : mayB n cs = true) : cs.length ≤ 256 ∧ n ≤ 1048576 := by
  unfold mayB at h
  have h' : MayC n cs := by simpa using h
  exact ⟨h'.2.2, h'.2.1⟩
theorem pl_Ways (n : Int) (csA : Option Addr) (csc : Nat) (cs : List UInt64) (w0 : World) (hcs : Slr w0 RU (.slice csA cs.length csc) cs) (hp : 0 ≤ n) :
    Ct Try.prog 8 [.int .u64 n, .slice csA cs.length csc] w0 no (fun ((⟨s0, n0, x0⟩, e1) : Br PlG × Int) => .tuple #[.slice s0.A n0 s0.c, .int .i64 e1]) (fun (⟨s0, n0, x0⟩, e1) => [rw_ 32 RPl s0 n0 x0]) (fun (⟨s0, n0, x0⟩, e1) => x0 = (waysL n cs) ∧ e1 = waysE n cs) := by
  have hst := St.start w0
  have i_cs := Rw.old hcs
  refine genter _ hst Try.func8 rfl rfl rfl rfl ?_
  have hm : mayB n cs = true → ((waysK n cs []).map one_).length ≤ 100000 := fun h => by
    have := waysK_len n cs []; have := (mayB_len h).1; simp at *; omega
  repeat' (first
   | (refine kO ?_; first | refine gv rfl rfl ?_ | refine gnil ?_ | (refine kK ?_; first | refine gcall rfl ?_ rfl (fun _ _ => ?_) (fun _ _ => ?_) | refine gcv rfl rfl ?_ rfl (fun _ _ => ?_) (fun _ _ => ?_) | refine gcc1 rfl rfl ?_ rfl (fun _ _ => ?_) (fun _ _ => ?_)))
   | (refine kC ?_; first | refine gseq ?_ | refine greg ?_ | refine gret ?_ | refine gskip ?_ | (refine gcond rfl (fun h => ?_) (fun h => ?_) <;> (first | exact h.elim | (exfalso; omega) | exact absurd h (by assumption) | exact absurd (by assumption) h | skip)))
   | (refine kN ?_; first | refine gthen ?_)
   | (refine kR ?_; first | refine grs ?_ | refine grc ?_)
   | (refine kR ?_; refine gr rfl (rvT rfl (rvT rfl rv0)) (⟨_, _, _⟩, _) rfl (er Ent.nil) ?_)
   | (refine kR ?_; refine gr rfl (rvT rfl (rvT rfl rv0)) (⟨⟨none, 0⟩, 0, []⟩, _) rfl (er0 Ent.nil) ?_)
   | exact Pre.mk (hm (by assumption))
   | exact Pre.mk ⟨hp, by assumption⟩
   | (refine Pre.mk ?_; first | exact True.intro | omega | ((repeat' (first | refine And.intro ?_ ?_ | exact True.intro | assumption | omega)); done) | (simp only [and_true, true_and, or_true, true_or]; first | done | omega))
   | (refine kD ?_; first | exact dm_none))
  · show _ = waysL n cs ∧ _ = waysE n cs
    unfold waysL waysE; rw [if_neg (by rw [h]; decide), if_neg (by rw [h]; decide)]; exact ⟨rfl, rfl⟩
  · show _ = waysL n cs ∧ _ = waysE n cs
    unfold waysL waysE; rw [if_pos h, if_pos h, map_one]; exact ⟨rfl, rfl⟩
instance c_pl_Ways {n : Int} {csA : Option Addr} {csc csn : Nat} {cs : List UInt64} {w0 : World} {X : Nat → Prop} {L : List Assn} [hcs : Rw w0 X L (.slice csA csn csc) RU cs] : Ctr Try.prog 8 [.int .u64 n, .slice csA csn csc] w0 X L (0 ≤ n) (fun s0 : Sv => .tuple #[.slice s0.A (waysL n cs).length s0.c, .int .i64 (waysE n cs)]) (fun s0 : Sv => rw_ 32 RPl s0 (waysL n cs).length (waysL n cs) :: L) (fun s0 : Sv => True) :=
  ctr' (M' := (fun s0 : Sv => [rw_ 32 RPl s0 (waysL n cs).length (waysL n cs)])) (by kernel_rfl) (fun hp w hw => by have ecs := hcs.len hw; subst ecs; exact pl_Ways _ _ _ _ w (hcs.get w hw) hp) (by rintro hp ⟨⟨s0, n0, x0⟩, e1⟩ ⟨rfl, rfl⟩ ok; cases ok.row; exact ⟨s0, rfl, rfl, trivial⟩)
end Go.Proofs.Ytjiglibogmehfaa
