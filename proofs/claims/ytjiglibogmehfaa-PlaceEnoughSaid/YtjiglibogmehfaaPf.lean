/-
  Places: Needs.
-/
import Derived.Test.YtjiglibogmehfaaPe
set_option linter.all false
set_option maxRecDepth 100000
namespace Go.Proofs.Ytjiglibogmehfaa
open Go.RowKit

def addQ (own ks acc : List PlG) (p : PlG) : List PlG := if neighG p ∈ ks ∨ p ∈ own then acc else if neighG p ∈ acc then acc else acc ++ [neighG p]
def addK (own ks done : List PlG) : List PlG := done.foldl (addQ own ks) []
theorem addQ_mem {own ks acc : List PlG} {p q : PlG} : q ∈ addQ own ks acc p ↔ q ∈ acc ∨ (q = neighG p ∧ ¬ (neighG p ∈ ks ∨ p ∈ own)) := by
  unfold addQ
  split
  · rename_i h; simp [h]
  · rename_i h
    split
    · rename_i h2
      constructor
      · exact .inl
      · rintro (h3 | ⟨rfl, _⟩)
        · exact h3
        · exact h2
    · simp [h]
theorem addK_mem {own ks : List PlG} : ∀ {done acc : List PlG} {q : PlG}, q ∈ done.foldl (addQ own ks) acc ↔ q ∈ acc ∨ ∃ p ∈ done, q = neighG p ∧ ¬ (neighG p ∈ ks ∨ p ∈ own)
  | [], acc, q => by simp
  | p :: r, acc, q => by
    rw [List.foldl_cons, addK_mem, addQ_mem]
    simp only [List.mem_cons, exists_eq_or_imp, or_assoc]
theorem addQ_nodup {own ks acc : List PlG} {p : PlG} (h : acc.Nodup) : (addQ own ks acc p).Nodup := by
  unfold addQ
  split
  · exact h
  · split
    · exact h
    · rename_i h2
      rw [List.nodup_append]
      exact ⟨h, by simp, fun a ha b hb e => by
        rw [List.mem_singleton] at hb; subst hb; subst e; exact h2 ha⟩
theorem addK_nodup {own ks : List PlG} : ∀ {done acc : List PlG}, acc.Nodup → (done.foldl (addQ own ks) acc).Nodup
  | [], acc, h => h
  | p :: r, acc, h => addK_nodup (done := r) (addQ_nodup h)
theorem addK_perm {own ks d d' : List PlG} (h : d.Perm d') : (addK own ks d).Perm (addK own ks d') := by
  unfold addK
  rw [List.perm_ext_iff_of_nodup (addK_nodup List.nodup_nil) (addK_nodup List.nodup_nil)]
  intro q
  rw [addK_mem, addK_mem]
  simp only [h.mem_iff]
noncomputable def needsL (n : Int) (cs : List UInt64) : List PlG := if mayB n cs = true then sortP (addK (treesN n) (waysK n cs []) (waysK n cs [])) else []
theorem addK_len {own ks : List PlG} : ∀ {done acc : List PlG}, (done.foldl (addQ own ks) acc).length ≤ acc.length + done.length
  | [], acc => by simp
  | p :: r, acc => by
    rw [List.foldl_cons]
    have h1 := addK_len (own := own) (ks := ks) (done := r) (acc := addQ own ks acc p)
    have h2 : (addQ own ks acc p).length ≤ acc.length + 1 := by
      unfold addQ; split
      · omega
      · split
        · omega
        · simp
    simp only [List.length_cons]; omega
theorem touch_keys {mm : List (PlG × Int)} {q : PlG} {v : Int} : (mset (mtouch mm q 0) q v).map (·.1) = if q ∈ mm.map (·.1) then mm.map (·.1) else mm.map (·.1) ++ [q] := by
  rw [mset_keys]
  by_cases h : mhas mm q
  · have e : mtouch mm q 0 = mm := if_pos h
    have h' : q ∈ mm.map (·.1) := h
    rw [e, if_pos h']
  · have e : mtouch mm q 0 = mm ++ [(q, 0)] := if_neg h
    have h' : ¬ q ∈ mm.map (·.1) := h
    rw [e, if_neg h', List.map_append]; rfl
theorem addK_snoc {own ks d : List PlG} {p : PlG} : addK own ks (d ++ [p]) = addQ own ks (addK own ks d) p := by
  unfold addK; rw [List.foldl_append]; rfl
theorem treesN_pls (n : Int) : Pls (treesN n) := fun p hp => by
  have := treesN_ok n p hp
  show 0 ≤ p.row ∧ p.row ≤ 255 ∧ 0 ≤ p.at_ ∧ p.at_ ≤ 18446744073709551615
  omega
theorem neigh_b {p : PlG} (h : PlOk p) : PlOk (neighG p) := by
  obtain ⟨h1, h2, h3, h4⟩ := h
  have e : bits BinOp.xor .u64 p.at_ 1 = ((p.at_.toNat ^^^ 1 : Nat) : Int) := by
    have := u64_xor p.at_ 1 h3 (by omega) (by omega) (by omega)
    simpa using this
  have hx : p.at_.toNat ^^^ 1 < 2 ^ 64 := Nat.xor_lt_two_pow (by omega) (by omega)
  refine ⟨h1, h2, ?_, ?_⟩
  · show 0 ≤ bits BinOp.xor .u64 p.at_ 1; omega
  · show bits BinOp.xor .u64 p.at_ 1 ≤ 18446744073709551615; omega
theorem pl_Needs (n : Int) (csA : Option Addr) (csc : Nat) (cs : List UInt64) (w0 : World) (hcs : Slr w0 RU (.slice csA cs.length csc) cs) (hp : 0 ≤ n) :
    Ct Try.prog 10 [.int .u64 n, .slice csA cs.length csc] w0 no (fun ((⟨s0, n0, x0⟩, e1) : Br PlG × Int) => .tuple #[.slice s0.A n0 s0.c, .int .i64 e1]) (fun (⟨s0, n0, x0⟩, e1) => [rw_ 32 RPl s0 n0 x0]) (fun (⟨s0, n0, x0⟩, e1) => x0 = (needsL n cs) ∧ e1 = waysE n cs) := by
  have hst := St.start w0
  have i_cs := Rw.old hcs
  refine genter _ hst Try.func10 rfl rfl rfl rfl ?_
  repeat' (first
   | (refine kO ?_; first | refine gv rfl rfl ?_ | refine gnil ?_ | refine gnilD ?_ | refine gl rfl (lvb rfl rfl) rfl (fun _ => ?_) | refine gl rfl (lvB rfl rfl rfl) rfl (fun _ => ?_) | refine gl rfl (lve rfl rfl) rfl (fun _ => ?_) | refine gl rfl (lvE rfl rfl rfl) rfl (fun _ => ?_) | refine gl rfl (lva rfl rfl rfl rfl rfl) rfl (fun _ => ?_) | refine gp rfl (by (try simp only [InR]); omega) rfl ?_ | (refine kK ?_; first | refine gcall rfl ?_ rfl (fun _ _ => ?_) (fun _ _ => ?_) | refine gcv rfl rfl ?_ rfl (fun _ _ => ?_) (fun _ _ => ?_) | refine gcc1 rfl rfl ?_ rfl (fun _ _ => ?_) (fun _ _ => ?_)) | refine geql rfl rfl (by kernel_rfl) ?_ rfl ?_ | refine ga rfl (fun _ => ?_) (fun _ => ?_) | refine gst rfl rfl rfl rfl ?_ ?_ | refine ge rfl rfl rfl rfl ?_ ?_ | refine gea rfl rfl rfl rfl rfl rfl rfl ?_ ?_ | refine gMl rfl rfl rfl ?_ rfl ?_ | refine gMl2 rfl rfl rfl ?_ rfl ?_ | refine gMe rfl rfl rfl ?_ rfl (fun _ => ?_) (fun _ => ?_) | refine gMs rfl rfl rfl rfl ?_ ?_ | refine gMr rfl rfl rfl (fun _ => ?_) (fun _ => ?_) | refine gMn rfl rfl ?_ (fun _ => ?_) (fun h => ?_) (fun _ _ h => ?_) | refine gMv rfl rfl ?_ ?_ | refine gMk RPl VInt rfl rfl (fun _ => ?_) (fun _ => ?_) | refine gw rfl rfl ?_ | (refine kg ?_; (first | refine guardT rfl rfl rfl rfl (fun h => ?_) (fun h => ?_) | refine guardF rfl rfl rfl rfl (fun h => ?_) (fun h => ?_) | refine guardU rfl rfl rfl rfl ?_ | refine guardTH rfl rfl rfl rfl ?_ (fun h => ?_) (fun h => ?_) | refine guardFH rfl rfl rfl rfl ?_ (fun h => ?_) (fun h => ?_) | refine guardUH rfl rfl rfl rfl ?_ ?_) <;> (first | exact h.elim | (exfalso; omega) | exact absurd h (by assumption) | exact absurd (by assumption) h | skip)))
   | (refine kC ?_; first | refine gseq ?_ | refine greg ?_ | refine gret ?_ | refine gskip ?_ | refine gdraw (id := 10) [0,1,2,3,4,5,6] (by kernel_rfl) (by kernel_rfl) rfl ?_ | (refine gcond rfl (fun h => ?_) (fun h => ?_) <;> (first | exact h.elim | (exfalso; omega) | exact absurd h (by assumption) | exact absurd (by assumption) h | skip)) | refine gblk ?_ | refine gexit ?_)
   | (refine kN ?_; first | refine gthen ?_ | refine gnblk ?_)
   | (refine kR ?_; first | refine grs ?_ | refine grb ?_ | refine grl ?_ | refine grc ?_)
   | (refine kX ?_; first | refine gxs ?_ | refine gxb ?_ | refine gxn rfl ?_ | refine gxl ?_ | refine gxc ?_)
   | (refine kR ?_; refine gr rfl (rvT rfl (rvT rfl rv0)) (⟨_, _, _⟩, _) rfl (er Ent.nil) ?_)
   | (refine kR ?_; refine gr rfl (rvT rfl (rvT rfl rv0)) (⟨⟨none, 0⟩, 0, []⟩, _) rfl (er0 Ent.nil) ?_)
   | exact Pre.mk ⟨hp, by assumption⟩
   | (refine Pre.mk ?_; first | exact True.intro | omega | ((repeat' (first | refine And.intro ?_ ?_ | exact True.intro | assumption | omega)); done) | (simp only [and_true, true_and, or_true, true_or]; first | done | omega))
   | (refine kD ?_; first | exact dm_none | exact dm0 | refine dmOff rfl ?_ | refine dmOn (lkM rfl ?_ (by simp only [touch_get])) ?_ | refine dmOn (lvb rfl rfl) ?_ | refine dmOn (lvB rfl rfl rfl) ?_ | refine dmOn (lve rfl rfl) ?_ | refine dmOn (lvE rfl rfl rfl) ?_ | refine dmOn (lva rfl rfl rfl rfl rfl) ?_))
  · show _ = needsL n cs ∧ _ = waysE n cs
    unfold needsL waysE; rw [if_neg (by rw [h]; decide), if_neg (by rw [h]; decide)]; exact ⟨rfl, rfl⟩
  · rename_i r1 _ r2 s8 _ it
    have hwl := waysK_len n cs []
    have hml := (mayB_len h).1
    refine gloop2 [6, 7, 8, 22] (fun (done mm : List (PlG × Int)) K => K) (fun done mm => [rw_ 32 RPl s8 (treesN n).length (treesN n), mpA Try.prog 32 RPl VInt r2 mm, rgA Try.prog 32 RPl VInt it r1 ((waysK n cs []).map one_) done]) (fun done mm => (∃ l, (done ++ l).Perm ((waysK n cs []).map one_)) ∧ mm.map (·.1) = addK (treesN n) (waysK n cs []) (done.map (·.1))) (fun done mm => (waysK n cs []).length - done.length) [] [] rfl (by repeat (first | exact trivial | refine ⟨rfl, ?_⟩)) (er (ec (ec Ent.nil))) ⟨⟨_, List.Perm.refl _⟩, rfl⟩ (fun done mm hi => ?_)
    obtain ⟨⟨l0, hl0⟩, hmm⟩ := hi
    have hdl : done.length ≤ (waysK n cs []).length := by have := hl0.length_eq; simp at this; omega
    have hml2 : mm.length ≤ 100000 := by
      have h1 := congrArg List.length hmm
      have h2 := addK_len (own := treesN n) (ks := waysK n cs []) (done := done.map (·.1)) (acc := [])
      rw [List.length_map] at h1
      simp only [List.length_map, List.length_nil] at h2
      unfold addK at h1
      simp only [List.length_nil] at hwl
      omega
    repeat' (first
     | (refine kO ?_; first | refine gv rfl rfl ?_ | refine gnil ?_ | refine gnilD ?_ | refine gl rfl (lvb rfl rfl) rfl (fun _ => ?_) | refine gl rfl (lvB rfl rfl rfl) rfl (fun _ => ?_) | refine gl rfl (lve rfl rfl) rfl (fun _ => ?_) | refine gl rfl (lvE rfl rfl rfl) rfl (fun _ => ?_) | refine gl rfl (lva rfl rfl rfl rfl rfl) rfl (fun _ => ?_) | refine gp rfl (by (try simp only [InR]); omega) rfl ?_ | (refine kK ?_; first | refine gcall rfl ?_ rfl (fun _ _ => ?_) (fun _ _ => ?_) | refine gcv rfl rfl ?_ rfl (fun _ _ => ?_) (fun _ _ => ?_) | refine gcc1 rfl rfl ?_ rfl (fun _ _ => ?_) (fun _ _ => ?_)) | refine geql rfl rfl (by kernel_rfl) ?_ rfl ?_ | refine ga rfl (fun _ => ?_) (fun _ => ?_) | refine gst rfl rfl rfl rfl ?_ ?_ | refine ge rfl rfl rfl rfl ?_ ?_ | refine gea rfl rfl rfl rfl rfl rfl rfl ?_ ?_ | refine gMl rfl rfl rfl ?_ rfl ?_ | refine gMl2 rfl rfl rfl ?_ rfl ?_ | refine gMe rfl rfl rfl ?_ rfl (fun _ => ?_) (fun _ => ?_) | refine gMs rfl rfl rfl rfl ?_ ?_ | refine gMr rfl rfl rfl (fun _ => ?_) (fun _ => ?_) | refine gMn rfl rfl ?_ (fun _ => ?_) (fun h => ?_) (fun _ _ h => ?_) | refine gMv rfl rfl ?_ ?_ | refine gMk RPl VInt rfl rfl (fun _ => ?_) (fun _ => ?_) | refine gw rfl rfl ?_ | (refine kg ?_; (first | refine guardT rfl rfl rfl rfl (fun h => ?_) (fun h => ?_) | refine guardF rfl rfl rfl rfl (fun h => ?_) (fun h => ?_) | refine guardU rfl rfl rfl rfl ?_ | refine guardTH rfl rfl rfl rfl ?_ (fun h => ?_) (fun h => ?_) | refine guardFH rfl rfl rfl rfl ?_ (fun h => ?_) (fun h => ?_) | refine guardUH rfl rfl rfl rfl ?_ ?_) <;> (first | exact h.elim | (exfalso; omega) | exact absurd h (by assumption) | exact absurd (by assumption) h | skip)))
     | (refine kC ?_; first | refine gseq ?_ | refine greg ?_ | refine gret ?_ | refine gskip ?_ | refine gdraw (id := 10) [0,1,2,3,4,5,6] (by kernel_rfl) (by kernel_rfl) rfl ?_ | (refine gcond rfl (fun h => ?_) (fun h => ?_) <;> (first | exact h.elim | (exfalso; omega) | exact absurd h (by assumption) | exact absurd (by assumption) h | skip)) | refine gblk ?_ | refine gexit ?_)
     | (refine kN ?_; first | refine gthen ?_ | refine gnblk ?_)
     | (refine kR ?_; first | refine grs ?_ | refine grb ?_ | refine grl ?_ | refine grc ?_)
     | (refine kX ?_; first | refine gxs ?_ | refine gxb ?_ | refine gxn rfl ?_ | refine gxl ?_ | refine gxc ?_)
     | (refine kR ?_; refine gr rfl (rvT rfl (rvT rfl rv0)) (⟨_, _, _⟩, _) rfl (er Ent.nil) ?_)
     | (refine kR ?_; refine gr rfl (rvT rfl (rvT rfl rv0)) (⟨⟨none, 0⟩, 0, []⟩, _) rfl (er0 Ent.nil) ?_)
     | exact Pre.mk hml2
     | exact Pre.mk (pl_of_KV (And.right (by assumption)))
     | exact Pre.mk (neigh_b (pl_of_KV (And.right (by assumption))))
     | exact Pre.mk ⟨treesN_pls n, pl_of_KV (And.right (by assumption))⟩
     | (refine Pre.mk ?_; first | exact True.intro | omega | ((repeat' (first | refine And.intro ?_ ?_ | exact True.intro | assumption | omega)); done) | (simp only [and_true, true_and, or_true, true_or]; first | done | omega))
     | (refine kD ?_; first | exact dm_none | exact dm0 | refine dmOff rfl ?_ | refine dmOn (lkM rfl ?_ (by simp only [touch_get])) ?_ | refine dmOn (lvb rfl rfl) ?_ | refine dmOn (lvB rfl rfl rfl) ?_ | refine dmOn (lve rfl rfl) ?_ | refine dmOn (lvE rfl rfl rfl) ?_ | refine dmOn (lva rfl rfl rfl rfl rfl) ?_))
    · have hd : (done.map (·.1)).Perm (waysK n cs []) := by
        have h1 := (show done.Perm ((waysK n cs []).map one_) by assumption).map (·.1)
        rwa [map_one] at h1
      have hb : mayB n cs = true := by assumption
      show _ = needsL n cs ∧ _ = waysE n cs
      unfold needsL waysE; rw [if_pos hb, if_pos hb, hmm]
      exact ⟨sortP_eq (addK_perm hd), rfl⟩
    · rename_i p l hpl a1 a2 a3 a4 a5 a6 a7 hlk b1 b2 b3 b4 b5 b6 b7 b8
      have hlk' : (mlook ((waysK n cs []).map one_) (neighG p.1)).getD 0 = 0 := hlk
      have hn : ¬ (neighG p.1 ∈ waysK n cs [] ∨ p.1 ∈ treesN n) := by
        rintro (hm | hm)
        · rw [mlook_one, if_pos hm] at hlk'; omega
        · exact h hm
      have hlen : done.length < (waysK n cs []).length := by have := hpl.1.length_eq; simp at this; omega
      refine gnl2 (done ++ [p]) (mset (mtouch mm (neighG p.1) 0) (neighG p.1) (IntKind.wrap .i64 ((mlook mm (neighG p.1)).getD 0 + 1))) (by repeat (first | exact trivial | refine ⟨rfl, ?_⟩)) (er (ec (ec Ent.nil))) ⟨⟨l, by simpa using hpl.1⟩, ?_⟩ (by simp; omega)
      rw [touch_keys, List.map_append, List.map_cons, List.map_nil, addK_snoc, addQ, if_neg hn, ← hmm]
    · rename_i p l hpl a1 a2 a3 a4 a5 a6 a7 hlk b1 b2 b3 b4 b5 b6
      have hlen : done.length < (waysK n cs []).length := by have := hpl.1.length_eq; simp at this; omega
      refine gnl2 (done ++ [p]) mm (by repeat (first | exact trivial | refine ⟨rfl, ?_⟩)) (er (ec (ec Ent.nil))) ⟨⟨l, by simpa using hpl.1⟩, ?_⟩ (by simp; omega)
      have hm : p.1 ∈ treesN n := h
      rw [List.map_append, List.map_cons, List.map_nil, addK_snoc, addQ, if_pos (.inr hm), hmm]
    · rename_i p l hpl a1 a2 a3 a4 a5 a6 a7 hlk b1 b2 b3
      have hlk' : ¬ (mlook ((waysK n cs []).map one_) (neighG p.1)).getD 0 = 0 := hlk
      have hm : neighG p.1 ∈ waysK n cs [] := Classical.byContradiction fun hx => hlk' (by rw [mlook_one, if_neg hx])
      have hlen : done.length < (waysK n cs []).length := by have := hpl.1.length_eq; simp at this; omega
      refine gnl2 (done ++ [p]) mm (by repeat (first | exact trivial | refine ⟨rfl, ?_⟩)) (er (ec (ec Ent.nil))) ⟨⟨l, by simpa using hpl.1⟩, ?_⟩ (by simp; omega)
      rw [List.map_append, List.map_cons, List.map_nil, addK_snoc, addQ, if_pos (.inl hm), hmm]
instance c_pl_Needs {n : Int} {csA : Option Addr} {csc csn : Nat} {cs : List UInt64} {w0 : World} {X : Nat → Prop} {L : List Assn} [hcs : Rw w0 X L (.slice csA csn csc) RU cs] : Ctr Try.prog 10 [.int .u64 n, .slice csA csn csc] w0 X L (0 ≤ n) (fun s0 : Sv => .tuple #[.slice s0.A (needsL n cs).length s0.c, .int .i64 (waysE n cs)]) (fun s0 : Sv => rw_ 32 RPl s0 (needsL n cs).length (needsL n cs) :: L) (fun s0 : Sv => True) :=
  ctr' (M' := (fun s0 : Sv => [rw_ 32 RPl s0 (needsL n cs).length (needsL n cs)])) (by kernel_rfl) (fun hp w hw => by have ecs := hcs.len hw; subst ecs; exact pl_Needs _ _ _ _ w (hcs.get w hw) hp) (by rintro hp ⟨⟨s0, n0, x0⟩, e1⟩ ⟨rfl, rfl⟩ ok; cases ok.row; exact ⟨s0, rfl, rfl, trivial⟩)
end Go.Proofs.Ytjiglibogmehfaa
