/-
  moneyerref14: a step.
-/
import Derived.Test.YtkjpemkankefnaaDoorEl
set_option linter.all false
set_option maxRecDepth 100000
set_option maxHeartbeats 4000000
namespace Go.Proofs.YtkjpemkankefnaaDoor
open Go.RowKit

def twoS (op : Int) (a b : List UInt8) : List UInt8 := if numE a ≠ 0 ∨ numE b ≠ 0 then [] else cellB (twoN op (numN a) (numN b))
def twoO (op : Int) (a b : List UInt8) : Bool := decide (numE a = 0 ∧ numE b = 0 ∧ twoE op (numN a) (numN b) = 0)
theorem twoS_len (op : Int) (a b : List UInt8) : (twoS op a b).length ≤ 8 := by
  unfold twoS; split
  · simp
  · exact cellB_len _
theorem ref14_two (op : Int) (cA : Option Addr) (cc : Nat) (c : List BsG) (w0 : World) (hc : Slr w0 RBs (.slice cA c.length cc) c) (q_c : BsP w0 c) (hp : (0 ≤ op ∧ op ≤ 255) ∧ c.length = 2) :
    Ct Tryd.prog 78 [.int .u8 op, .slice cA c.length cc] w0 no (fun ((⟨s0, n0, x0⟩, e1) : Br UInt8 × Bool) => .tuple #[.slice s0.A n0 s0.c, .bool e1]) (fun (⟨s0, n0, x0⟩, e1) => [rw_ 5 RB s0 n0 x0]) (fun (⟨s0, n0, x0⟩, e1) => x0 = (twoS op (ixd c (0 : Int)).2 (ixd c (1 : Int)).2) ∧ e1 = twoO op (ixd c (0 : Int)).2 (ixd c (1 : Int)).2) := by
  have hst := St.start w0
  have i_c := Rw.old hc
  have j_c := BsR.old q_c
  refine genter _ hst Tryd.func78 rfl rfl rfl rfl ?_
  repeat' (first
   | (refine kO ?_; first | refine gv rfl rfl ?_ | refine gnil ?_ | refine gl rfl (lvb rfl rfl) rfl (fun _ => ?_) | refine gl rfl (lvB rfl rfl rfl) rfl (fun _ => ?_) | refine gl rfl (lve rfl rfl) rfl (fun _ => ?_) | refine gl rfl (lvE rfl rfl rfl) rfl (fun _ => ?_) | refine gl rfl (lva rfl rfl rfl rfl rfl) rfl (fun _ => ?_) | refine gp rfl (by (try simp only [InR]); omega) rfl ?_ | refine gix rfl rfl rfl rfl (by omega) rfl (fun _ => ?_) | refine gixa rfl rfl rfl rfl (by omega) rfl (fun _ => ?_) | (refine kK ?_; first | refine gcall rfl ?_ rfl (fun _ _ => ?_) (fun _ _ => ?_) | refine gcv rfl rfl ?_ rfl (fun _ _ => ?_) (fun _ _ => ?_) | refine gcc1 rfl rfl ?_ rfl (fun _ _ => ?_) (fun _ _ => ?_)) | refine geql rfl rfl (by kernel_rfl) ?_ rfl ?_ | refine gneq rfl rfl (by kernel_rfl) ?_ rfl ?_ | (refine kg ?_; (first | refine guardT rfl rfl rfl rfl (fun h => ?_) (fun h => ?_) | refine guardF rfl rfl rfl rfl (fun h => ?_) (fun h => ?_) | refine guardU rfl rfl rfl rfl ?_ | refine guardTH rfl rfl rfl rfl ?_ (fun h => ?_) (fun h => ?_) | refine guardFH rfl rfl rfl rfl ?_ (fun h => ?_) (fun h => ?_) | refine guardUH rfl rfl rfl rfl ?_ ?_) <;> (first | exact h.elim | (exfalso; omega) | exact absurd h (by assumption) | exact absurd (by assumption) h | skip)))
   | (refine kC ?_; first | refine gseq ?_ | refine greg ?_ | refine gret ?_ | refine gskip ?_ | (refine gcond rfl (fun h => ?_) (fun h => ?_) <;> (first | exact h.elim | (exfalso; omega) | exact absurd h (by assumption) | exact absurd (by assumption) h | skip)))
   | (refine kN ?_; first | refine gthen ?_)
   | (refine kR ?_; first | refine grs ?_ | refine grc ?_)
   | (refine kR ?_; refine gr rfl (rvT rfl (rvT rfl rv0)) (⟨_, _, _⟩, _) rfl (er Ent.nil) ?_)
   | (refine kR ?_; refine gr rfl (rvT rfl (rvT rfl rv0)) (⟨⟨none, 0⟩, 0, []⟩, _) rfl (er0 Ent.nil) ?_)
   | (refine Pre.mk ?_; first | exact True.intro | omega | ((repeat' (first | refine And.intro ?_ ?_ | exact True.intro | assumption | omega)); done) | (simp only [and_true, true_and, or_true, true_or]; first | done | omega))
   | (refine kD ?_; first | exact dm_none))
  all_goals
    show _ = twoS _ _ _ ∧ _ = twoO _ _ _
    unfold twoS twoO
    grind
instance c_ref14_two {op : Int} {cA : Option Addr} {cc cn : Nat} {c : List BsG} {w0 : World} {X : Nat → Prop} {L : List Assn} [hc : Rw w0 X L (.slice cA cn cc) RBs c] [q_c : BsR w0 X L c] : Ctr Tryd.prog 78 [.int .u8 op, .slice cA cn cc] w0 X L ((0 ≤ op ∧ op ≤ 255) ∧ c.length = 2) (fun s0 : Sv => .tuple #[.slice s0.A (twoS op (ixd c (0 : Int)).2 (ixd c (1 : Int)).2).length s0.c, .bool (twoO op (ixd c (0 : Int)).2 (ixd c (1 : Int)).2)]) (fun s0 : Sv => rw_ 5 RB s0 (twoS op (ixd c (0 : Int)).2 (ixd c (1 : Int)).2).length (twoS op (ixd c (0 : Int)).2 (ixd c (1 : Int)).2) :: L) (fun s0 : Sv => (twoS op (ixd c (0 : Int)).2 (ixd c (1 : Int)).2).length ≤ 8) :=
  ctr' (M' := (fun s0 : Sv => [rw_ 5 RB s0 (twoS op (ixd c (0 : Int)).2 (ixd c (1 : Int)).2).length (twoS op (ixd c (0 : Int)).2 (ixd c (1 : Int)).2)])) (by kernel_rfl) (fun hp w hw => by have ec := hc.len hw; subst ec; exact ref14_two _ _ _ _ w (hc.get w hw) (q_c.get w hw) hp) (by rintro hp ⟨⟨s0, n0, x0⟩, e1⟩ ⟨rfl, rfl⟩ ok; cases ok.row; exact ⟨s0, rfl, rfl, twoS_len _ _ _⟩)
instance {cs : List (List UInt8)} : Decidable (StkN cs) := inferInstanceAs (Decidable (_ ∧ _))
theorem ref14_stackMay (sA : Option Addr) (sc : Nat) (s : List BsG) (w0 : World) (hs : Slr w0 RBs (.slice sA s.length sc) s) (q_s : BsP w0 s)  :
    Ct Tryd.prog 34 [.slice sA s.length sc] w0 no (fun ((e0) : Bool) => .bool e0) (fun (e0) => []) (fun (e0) => e0 = decide (StkN (s.map bsK))) := by
  have hst := St.start w0
  have i_s := Rw.old hs
  have j_s := BsR.old q_s
  refine genter _ hst Tryd.func34 rfl rfl rfl rfl ?_
  have hcap := hs.cap
  repeat' (first
   | (refine kO ?_; first | refine gv rfl rfl ?_ | refine gnil ?_ | refine gl rfl (lvb rfl rfl) rfl (fun _ => ?_) | refine gl rfl (lvB rfl rfl rfl) rfl (fun _ => ?_) | refine gl rfl (lve rfl rfl) rfl (fun _ => ?_) | refine gl rfl (lvE rfl rfl rfl) rfl (fun _ => ?_) | refine gl rfl (lva rfl rfl rfl rfl rfl) rfl (fun _ => ?_) | refine gp rfl (by (try simp only [InR]); omega) rfl ?_ | refine gix rfl rfl rfl rfl (by omega) rfl (fun _ => ?_) | refine gixa rfl rfl rfl rfl (by omega) rfl (fun _ => ?_) | (refine kK ?_; first | refine gcall rfl ?_ rfl (fun _ _ => ?_) (fun _ _ => ?_) | refine gcv rfl rfl ?_ rfl (fun _ _ => ?_) (fun _ _ => ?_) | refine gcc1 rfl rfl ?_ rfl (fun _ _ => ?_) (fun _ _ => ?_)) | refine gw rfl rfl ?_)
   | (refine kC ?_; first | refine gseq ?_ | refine greg ?_ | refine gret ?_ | refine gskip ?_ | (refine gcond rfl (fun h => ?_) (fun h => ?_) <;> (first | exact h.elim | (exfalso; omega) | exact absurd h (by assumption) | exact absurd (by assumption) h | skip)) | refine gblk ?_ | refine gexit ?_)
   | (refine kN ?_; first | refine gthen ?_ | refine gnblk ?_)
   | (refine kR ?_; first | refine grs ?_ | refine grb ?_ | refine grl ?_ | refine grc ?_)
   | (refine kX ?_; first | refine gxs ?_ | refine gxb ?_ | refine gxn rfl ?_ | refine gxl ?_ | refine gxc ?_)
   | (refine kR ?_; refine gr rfl (rvT rfl rv0) (_) rfl Ent.nil ?_)
   | (refine Pre.mk ?_; first | exact True.intro | omega | ((repeat' (first | refine And.intro ?_ ?_ | exact True.intro | assumption | omega)); done) | (simp only [and_true, true_and, or_true, true_or]; first | done | omega))
   | (refine kD ?_; first | exact dm_none))
  · exact (decide_eq_false fun (e : StkN (s.map bsK)) => by have := e.len; omega).symm
  refine gloopc [0] (fun (i : Nat) K => (3, .int .i64 i) :: K) (fun i => i ≤ s.length ∧ ∀ j : Nat, j < i → (ixd s (j : Int)).2.length ≤ 3000) (fun i => s.length - i) 0 rfl (by repeat (first | exact trivial | refine ⟨rfl, ?_⟩)) (by simp) (fun i hi => ?_)
  repeat' (first
   | (refine kO ?_; first | refine gv rfl rfl ?_ | refine gnil ?_ | refine gl rfl (lvb rfl rfl) rfl (fun _ => ?_) | refine gl rfl (lvB rfl rfl rfl) rfl (fun _ => ?_) | refine gl rfl (lve rfl rfl) rfl (fun _ => ?_) | refine gl rfl (lvE rfl rfl rfl) rfl (fun _ => ?_) | refine gl rfl (lva rfl rfl rfl rfl rfl) rfl (fun _ => ?_) | refine gp rfl (by (try simp only [InR]); omega) rfl ?_ | refine gix rfl rfl rfl rfl (by omega) rfl (fun _ => ?_) | refine gixa rfl rfl rfl rfl (by omega) rfl (fun _ => ?_) | (refine kK ?_; first | refine gcall rfl ?_ rfl (fun _ _ => ?_) (fun _ _ => ?_) | refine gcv rfl rfl ?_ rfl (fun _ _ => ?_) (fun _ _ => ?_) | refine gcc1 rfl rfl ?_ rfl (fun _ _ => ?_) (fun _ _ => ?_)) | refine gw rfl rfl ?_)
   | (refine kC ?_; first | refine gseq ?_ | refine greg ?_ | refine gret ?_ | refine gskip ?_ | (refine gcond rfl (fun h => ?_) (fun h => ?_) <;> (first | exact h.elim | (exfalso; omega) | exact absurd h (by assumption) | exact absurd (by assumption) h | skip)) | refine gblk ?_ | refine gexit ?_)
   | (refine kN ?_; first | refine gthen ?_ | refine gnblk ?_)
   | (refine kR ?_; first | refine grs ?_ | refine grb ?_ | refine grl ?_ | refine grc ?_)
   | (refine kX ?_; first | refine gxs ?_ | refine gxb ?_ | refine gxn rfl ?_ | refine gxl ?_ | refine gxc ?_)
   | (refine kR ?_; refine gr rfl (rvT rfl rv0) (_) rfl Ent.nil ?_)
   | (refine Pre.mk ?_; first | exact True.intro | omega | ((repeat' (first | refine And.intro ?_ ?_ | exact True.intro | assumption | omega)); done) | (simp only [and_true, true_and, or_true, true_or]; first | done | omega))
   | (refine kD ?_; first | exact dm_none))
  · exact (decide_eq_false fun (e : StkN (s.map bsK)) => by have := e.at (i := (i : Int)) ⟨by omega, by assumption⟩; omega).symm
  · refine gnl (i + 1) (by repeat (first | exact trivial | refine ⟨rfl, ?_⟩)) (Ent.refl _) ⟨by omega, fun j hj => ?_⟩ (by omega)
    by_cases e : j = i
    · subst e; omega
    · exact hi.2 j (by omega)
  · refine (decide_eq_true ⟨by rw [List.length_map]; omega, fun c hc => ?_⟩).symm
    obtain ⟨y, hy, rfl⟩ := List.mem_map.1 hc
    obtain ⟨j, hj, rfl⟩ := List.mem_iff_getElem.1 hy
    have := hi.2 j (by omega)
    rw [ixd_eq (by omega)] at this; exact this
instance c_ref14_stackMay {sA : Option Addr} {sc sn : Nat} {s : List BsG} {w0 : World} {X : Nat → Prop} {L : List Assn} [hs : Rw w0 X L (.slice sA sn sc) RBs s] [q_s : BsR w0 X L s] : Ctr Tryd.prog 34 [.slice sA sn sc] w0 X L (True) (fun _ : Unit => .bool (decide (StkN (s.map bsK)))) (fun _ : Unit => L) (fun _ : Unit => True) :=
  ctr' (M' := (fun _ : Unit => [])) (by kernel_rfl) (fun hp w hw => by have es := hs.len hw; subst es; exact ref14_stackMay _ _ _ w (hs.get w hw) (q_s.get w hw)) (by rintro hp e0 rfl ok; exact ⟨(), rfl, rfl, trivial⟩)
theorem getD_le {st : List (List UInt8)} (h : ∀ c ∈ st, c.length ≤ 3000) (i : Nat) : (st.getD i []).length ≤ 3000 := by
  rw [List.getD_eq_getElem?_getD]
  cases hq : st[i]? with
  | none => simp
  | some c => exact h c (List.mem_of_getElem? hq)
theorem popX_ok {st : List (List UInt8)} {n : Int} (h : StkN st) : ∀ c ∈ popX st n, c.length ≤ 3000 := fun c hc => by
  unfold popX at hc
  split at hc
  · cases hc
  · exact h.2 c (List.mem_of_mem_drop hc)
theorem popX_len {st : List (List UInt8)} {n : Int} (h : popE st n = 0) : ((popX st n).length : Int) = n := by
  have := popE_1 h
  unfold popX
  rw [if_neg (by omega), List.length_drop]; omega
def PopF (st : List (List UInt8)) (n : Int) (r : Ow BsG × Ow BsG) : Prop := r.1.gs.map bsK = popC st n ∧ r.2.gs.map bsK = popX st n ∧ (popE st n = 0 → (r.2.gs.length : Int) = n) ∧ (ixd r.2.gs (0 : Int)).2 = (popX st n).getD 0 [] ∧ (ixd r.2.gs (1 : Int)).2 = (popX st n).getD 1 [] ∧ (ixd r.2.gs (0 : Int)).2.length ≤ 3000 ∧ (ixd r.2.gs (1 : Int)).2.length ≤ 3000
theorem popF {st : List (List UInt8)} {n : Int} {r : Ow BsG × Ow BsG} (h : StkN st) (h1 : r.1.gs.map bsK = popC st n) (h2 : r.2.gs.map bsK = popX st n) : PopF st n r := by
  have e0 := ixd_getD (gs := r.2.gs) (i := 0)
  have e1 := ixd_getD (gs := r.2.gs) (i := 1)
  rw [h2] at e0 e1
  refine ⟨h1, h2, fun h0 => ?_, e0, e1, by rw [show (ixd r.2.gs (0 : Int)).2 = _ from e0]; exact getD_le (popX_ok h) 0, by rw [show (ixd r.2.gs (1 : Int)).2 = _ from e1]; exact getD_le (popX_ok h) 1⟩
  have := congrArg List.length h2
  rw [List.length_map] at this
  rw [this]; exact popX_len h0
instance (priority := high) c_ref12_PopF {w0 : World} {X : Nat → Prop} {L : List Assn} {lA : Option Addr} {lc ln : Nat} {l : List BsG} {n : Int} [hl : Rw w0 X L (.slice lA ln lc) RBs l] [q_l : BsR w0 X L l] :
    Ctr Tryd.prog 35 [.slice lA ln lc, .int .i64 n] w0 X L (StkN (l.map bsK)) (fun r : Ow BsG × Ow BsG => .tuple #[.slice r.1.s.A r.1.gs.length r.1.s.c, .slice r.2.s.A r.2.gs.length r.2.s.c, .int .i64 (popE (l.map bsK) n)])
      (fun r => rw_ 22 RBs r.1.s r.1.gs.length r.1.gs :: lot (r.1.gs.map bsRow) :: rw_ 22 RBs r.2.s r.2.gs.length r.2.gs :: lot (r.2.gs.map bsRow) :: L) (fun r => PopF (l.map bsK) n r) :=
  ctr' (M' := fun r : Ow BsG × Ow BsG => [rw_ 22 RBs r.1.s r.1.gs.length r.1.gs, lot (r.1.gs.map bsRow), rw_ 22 RBs r.2.s r.2.gs.length r.2.gs, lot (r.2.gs.map bsRow)]) (by kernel_rfl) (fun hp w hw => by have e := hl.len hw; subst e; exact ref12_Pop _ _ _ _ w (hl.get w hw) (q_l.get w hw) hp) (by
    rintro hp ⟨o0, o1, e2⟩ ⟨q0, q1, rfl⟩ ok
    exact ⟨(o0, o1), rfl, rfl, popF hp q0 q1⟩)
/-! a step -/
def pushR : List (List UInt8) → List (List UInt8) → Option (List (List UInt8))
  | st, [] => some st
  | st, b :: l => if pushE st b = 0 then pushR (pushC st b) l else none
def pushX (st l : List (List UInt8)) : List (List UInt8) × Bool := match pushR st l with | some s => (s, true) | none => ([], false)
def outL (op : Int) (u a b : List UInt8) (dg : List UInt8) : List (List UInt8) :=
  if op = 1 then [u] else if op = 7 then [a, a] else if op = 8 then [] else if op = 9 then [b, a] else if op = 10 then [a, cellB a.length] else if op = 11 then [boolC (decide (a = b))]
  else if op = 12 then [boolC (!trueB a)] else if op = 17 then [(shaH a).l] else if op = 18 then [(sha2 a).l] else if op = 19 then [boolC (decide (b.length = 32 ∧ lampE b dg a = 0))] else [cellB (twoN op (numN a) (numN b))]
def oneY (op : Int) (u a b : List UInt8) (r : List (List UInt8)) (ht : Int) (dg : List UInt8) : List (List UInt8) × Bool :=
  if op = 5 then (r, trueB a) else if op = 6 then ([], false) else if op = 20 then (r, decide (numE a = 0 ∧ numN a ≤ ht))
  else if (13 ≤ op ∧ op ≤ 16) ∧ twoO op a b = false then ([], false) else pushX r (outL op u a b dg)
def oneX (op : Int) (u : List UInt8) (st : List (List UInt8)) (ht : Int) (dg : List UInt8) : List (List UInt8) × Bool :=
  if popE st (popsN op) ≠ 0 then ([], false) else oneY op u ((popX st (popsN op)).getD 0 []) ((popX st (popsN op)).getD 1 []) (popC st (popsN op)) ht dg
def nreg (id : Nat) : Code → Bool
  | .seq (.seq (.region i _ _) _) _ => !(Nat.beq i id)
  | _ => true
theorem gseqN {P : Program} {n : Nat} {w0 : World} {X : Nat → Prop} {Q : Cont} {E : Env} {L : List Assn} {x y : Code} (id : Nat) (h : nreg id y = true) (k : GC P n w0 X x (.seq y Q) E L) : GC P n w0 X (.seq x y) Q E L := gseq k
theorem pushX_no {st l : List (List UInt8)} {b : List UInt8} (h : ¬ pushE st b = 0) : pushX st (b :: l) = ([], false) := by unfold pushX pushR; rw [if_neg h]
theorem pushX_ok {st l : List (List UInt8)} {b : List UInt8} (h : pushE st b = 0) : pushX st (b :: l) = pushX (pushC st b) l := by unfold pushX; rw [pushR, if_pos h]
theorem oneY_out {op ht : Int} {u a b dg : List UInt8} {r l : List (List UInt8)} (h5 : op ≠ 5) (h6 : op ≠ 6) (h20 : op ≠ 20) (h13 : ¬ ((13 ≤ op ∧ op ≤ 16) ∧ twoO op a b = false)) (ho : outL op u a b dg = l) : oneY op u a b r ht dg = pushX r l := by
  unfold oneY; rw [if_neg h5, if_neg h6, if_neg h20, if_neg h13, ho]
structure CutG where
  s : Sv
  n : Nat
  gs : List BsG
  l : List Assn
theorem ref14_one (op : Int) (uA : Option Addr) (uc : Nat) (u : List UInt8) (skA : Option Addr) (skc : Nat) (sk : List BsG) (ht : Int) (dg : List UInt8) [hdg : LenIs dg 32] (w0 : World) (hu : Slr w0 RB (.slice uA u.length uc) u) (hsk : Slr w0 RBs (.slice skA sk.length skc) sk) (q_sk : BsP w0 sk) (hp : (op = 1 ∨ 5 ≤ op ∧ op ≤ 20) ∧ StkN (sk.map bsK) ∧ (0 ≤ ht ∧ ht ≤ 4294967295) ∧ u.length ≤ 140737488351232) :
    Ct Tryd.prog 57 [Ag [.one (.int .u8 op), .one (.slice uA u.length uc)], .slice skA sk.length skc, Ag [.one (.int .u32 ht), .blk 32 (RB.all dg)]] w0 no (fun ((o0, e1) : Ow BsG × Bool) => .tuple #[.slice o0.s.A o0.gs.length o0.s.c, .bool e1]) (fun (o0, e1) => [rw_ 22 RBs o0.s o0.gs.length o0.gs, lot (o0.gs.map bsRow)]) (fun (o0, e1) => o0.gs.map bsK = (oneX op u (sk.map bsK) ht dg).1 ∧ e1 = (oneX op u (sk.map bsK) ht dg).2) := by
  have hst := St.start w0
  have i_u := Rw.old hu
  have i_sk := Rw.old hsk
  have j_sk := BsR.old q_sk
  refine genter _ hst Tryd.func57 rfl rfl rfl rfl ?_
  have hn := hp.2.1.len
  have hp0 : (op = 1 ∨ op = 6 → popsN op = 0) ∧ (op = 9 ∨ op = 11 ∨ 13 ≤ op ∧ op ≤ 16 ∨ op = 19 → popsN op = 2) ∧ (op = 5 ∨ op = 7 ∨ op = 8 ∨ op = 10 ∨ op = 12 ∨ op = 17 ∨ op = 18 ∨ op = 20 → popsN op = 1) := by
    unfold popsN; exact ⟨fun h => by rw [if_pos h], fun h => by rw [if_neg (by omega), if_pos h], fun h => by rw [if_neg (by omega), if_neg (by omega)]⟩
  repeat' (first
   | (refine kO ?_; first | refine gv rfl rfl ?_ | refine gnil ?_ | refine gnilD ?_ | refine gl rfl (lvb rfl rfl) rfl (fun _ => ?_) | refine gl rfl (lvB rfl rfl rfl) rfl (fun _ => ?_) | refine gl rfl (lve rfl rfl) rfl (fun _ => ?_) | refine gl rfl (lvE rfl rfl rfl) rfl (fun _ => ?_) | refine gl rfl (lva rfl rfl rfl rfl rfl) rfl (fun _ => ?_) | refine gp rfl (by (try simp only [InR]); omega) rfl ?_ | refine gf rfl rfl rfl ?_ | refine gix rfl rfl rfl rfl (by omega) rfl (fun _ => ?_) | refine gixa rfl rfl rfl rfl (by omega) rfl (fun _ => ?_) | (refine kK ?_; first | refine gcall rfl ?_ rfl (fun _ _ => ?_) (fun _ _ => ?_) | refine gcv rfl rfl ?_ rfl (fun _ _ => ?_) (fun _ _ => ?_) | refine gcc1 rfl rfl ?_ rfl (fun _ _ => ?_) (fun _ _ => ?_)) | refine geql rfl rfl (by kernel_rfl) ?_ rfl ?_ | refine gneq rfl rfl (by kernel_rfl) ?_ rfl ?_ | refine gx rfl rfl (fun _ => ?_) (fun _ => ?_) | refine gbs RB rfl rfl rfl rfl rfl rfl (fun _ => ?_) (fun _ => ?_) | refine gbb rfl rfl rfl (by first | (simp; done) | (simp only [and_true]; omega)) rfl rfl rfl rfl (fun _ => ?_) (fun _ => ?_) | refine gb rfl rfl rfl rfl ?_ | refine gw rfl rfl ?_ | (refine kg ?_; (first | refine guardT rfl rfl rfl rfl (fun h => ?_) (fun h => ?_) | refine guardF rfl rfl rfl rfl (fun h => ?_) (fun h => ?_) | refine guardU rfl rfl rfl rfl ?_ | refine guardTH rfl rfl rfl rfl ?_ (fun h => ?_) (fun h => ?_) | refine guardFH rfl rfl rfl rfl ?_ (fun h => ?_) (fun h => ?_) | refine guardUH rfl rfl rfl rfl ?_ ?_) <;> (first | exact h.elim | (exfalso; omega) | exact absurd h (by assumption) | exact absurd (by assumption) h | skip)))
   | (refine kC ?_; first | refine gseqN 36 rfl ?_ | refine greg ?_ | refine gret ?_ | refine gskip ?_ | refine gdraw (id := 17) [0,1,2,3,4,5,6,7] (by kernel_rfl) (by kernel_rfl) rfl ?_ | refine gdraw (id := 20) [0,1,2,3,4,5,6,7] (by kernel_rfl) (by kernel_rfl) rfl ?_ | refine gdraw (id := 22) [0,1,2,3,4,5,6,7,8,9] (by kernel_rfl) (by kernel_rfl) rfl ?_ | refine gdraw (id := 24) [0,1,2,3,4,5,6,7,8,9] (by kernel_rfl) (by kernel_rfl) rfl ?_ | refine gdraw (id := 33) [0,1,2,3,4,5,6,7,8,9,10,11] (by kernel_rfl) (by kernel_rfl) rfl ?_ | refine gdraw (id := 35) [0,1,2,3,4,5,6,7,8,9,10] (by kernel_rfl) (by kernel_rfl) rfl ?_ | (refine gcond rfl (fun h => ?_) (fun h => ?_) <;> (first | exact h.elim | (exfalso; omega) | exact absurd h (by assumption) | exact absurd (by assumption) h | skip)) | refine gblk ?_ | refine gexit ?_)
   | (refine kN ?_; first | refine gthen ?_ | refine gnblk ?_)
   | (refine kR ?_; first | refine grs ?_ | refine grb ?_ | refine grl ?_ | refine grc ?_)
   | (refine kX ?_; first | refine gxs ?_ | refine gxb ?_ | refine gxn rfl ?_ | refine gxl ?_ | refine gxc ?_)
   | (refine kR ?_; refine gr rfl (rvT rfl (rvT rfl rv0)) (⟨⟨_, _⟩, _⟩, _) rfl (er (elot Ent.nil)) ?_)
   | (refine kR ?_; refine gr rfl (rvT rfl (rvT rfl rv0)) (⟨⟨none, 0⟩, []⟩, _) rfl (er0 (elot0 Ent.nil)) ?_)
   | exact Pre.mk hp.2.1
   | (refine Pre.mk ?_; first | exact True.intro | omega | ((repeat' (first | refine And.intro ?_ ?_ | exact True.intro | assumption | omega)); done) | (simp only [and_true, true_and, or_true, true_or]; first | done | omega))
   | (refine kD ?_; first | exact dm_none | exact dm0 | refine dmOff rfl ?_ | refine dmOn (lvb rfl rfl) ?_ | refine dmOn (lvB rfl rfl rfl) ?_ | refine dmOn (lve rfl rfl) ?_ | refine dmOn (lvE rfl rfl rfl) ?_ | refine dmOn (lva rfl rfl rfl rfl rfl) ?_))
  · have e : oneX op u (sk.map bsK) ht dg = ([], false) := by unfold oneX; rw [if_pos h]
    show [] = _ ∧ false = _
    rw [e]; exact ⟨rfl, rfl⟩
  rename_i g3 g5 _ _ _ x hx
  have eX : oneX op u (sk.map bsK) ht dg = oneY op u (ixd x.2.gs (0 : Int)).2 (ixd x.2.gs (1 : Int)).2 (x.1.gs.map bsK) ht dg := by
    unfold oneX; rw [if_neg (by omega), hx.2.2.2.1, hx.2.2.2.2.1, hx.1]
  have hxl := hx.2.2.1 h
  have hx0 := hx.2.2.2.2.2.1
  have hx1 := hx.2.2.2.2.2.2
  rw [eX]
  clear eX
  refine gcut (σ := CutG) [8] (fun z K => (11, .slice z.s.A z.n z.s.c) :: K) (fun z => rw_ 22 RBs x.1.s x.1.gs.length x.1.gs :: lot (x.1.gs.map bsRow) :: rw_ 22 RBs z.s z.n z.gs :: z.l) (fun z => (z.n = z.gs.length ∧ z.n ≤ 2) ∧ BsR w0 no (rw_ 22 RBs z.s z.n z.gs :: z.l) z.gs ∧ (∀ y ∈ z.gs, y.2.length ≤ 140737488351232) ∧ oneY op u (ixd x.2.gs (0 : Int)).2 (ixd x.2.gs (1 : Int)).2 (x.1.gs.map bsK) ht dg = pushX (x.1.gs.map bsK) (z.gs.map bsK)) rfl ?_ (fun z hz => ?_)
  · skip
    repeat' (first
     | (refine kO ?_; first | refine gbs RBs rfl rfl rfl rfl rfl rfl (fun _ => ?_) (fun _ => ?_) | refine gv rfl rfl ?_ | refine gnil ?_ | refine gnilD ?_ | refine gl rfl (lvb rfl rfl) rfl (fun _ => ?_) | refine gl rfl (lvB rfl rfl rfl) rfl (fun _ => ?_) | refine gl rfl (lve rfl rfl) rfl (fun _ => ?_) | refine gl rfl (lvE rfl rfl rfl) rfl (fun _ => ?_) | refine gl rfl (lva rfl rfl rfl rfl rfl) rfl (fun _ => ?_) | refine gp rfl (by (try simp only [InR]); omega) rfl ?_ | refine gf rfl rfl rfl ?_ | refine gix rfl rfl rfl rfl (by omega) rfl (fun _ => ?_) | refine gixa rfl rfl rfl rfl (by omega) rfl (fun _ => ?_) | (refine kK ?_; first | refine gcall rfl ?_ rfl (fun _ _ => ?_) (fun _ _ => ?_) | refine gcv rfl rfl ?_ rfl (fun _ _ => ?_) (fun _ _ => ?_) | refine gcc1 rfl rfl ?_ rfl (fun _ _ => ?_) (fun _ _ => ?_)) | refine geql rfl rfl (by kernel_rfl) ?_ rfl ?_ | refine gneq rfl rfl (by kernel_rfl) ?_ rfl ?_ | refine gx rfl rfl (fun _ => ?_) (fun _ => ?_) | refine gbs RB rfl rfl rfl rfl rfl rfl (fun _ => ?_) (fun _ => ?_) | refine gbb rfl rfl rfl (by first | (simp; done) | (simp only [and_true]; omega)) rfl rfl rfl rfl (fun _ => ?_) (fun _ => ?_) | refine gb rfl rfl rfl rfl ?_ | refine gw rfl rfl ?_ | (refine kg ?_; (first | refine guardT rfl rfl rfl rfl (fun h => ?_) (fun h => ?_) | refine guardF rfl rfl rfl rfl (fun h => ?_) (fun h => ?_) | refine guardU rfl rfl rfl rfl ?_ | refine guardTH rfl rfl rfl rfl ?_ (fun h => ?_) (fun h => ?_) | refine guardFH rfl rfl rfl rfl ?_ (fun h => ?_) (fun h => ?_) | refine guardUH rfl rfl rfl rfl ?_ ?_) <;> (first | exact h.elim | (exfalso; omega) | exact absurd h (by assumption) | exact absurd (by assumption) h | skip)))
     | (refine kC ?_; first | refine gseq ?_ | refine greg ?_ | refine gret ?_ | refine gskip ?_ | refine gdraw (id := 17) [0,1,2,3,4,5,6,7] (by kernel_rfl) (by kernel_rfl) rfl ?_ | refine gdraw (id := 20) [0,1,2,3,4,5,6,7] (by kernel_rfl) (by kernel_rfl) rfl ?_ | refine gdraw (id := 22) [0,1,2,3,4,5,6,7,8,9] (by kernel_rfl) (by kernel_rfl) rfl ?_ | refine gdraw (id := 24) [0,1,2,3,4,5,6,7,8,9] (by kernel_rfl) (by kernel_rfl) rfl ?_ | refine gdraw (id := 33) [0,1,2,3,4,5,6,7,8,9,10,11] (by kernel_rfl) (by kernel_rfl) rfl ?_ | refine gdraw (id := 35) [0,1,2,3,4,5,6,7,8,9,10] (by kernel_rfl) (by kernel_rfl) rfl ?_ | (refine gcond rfl (fun h => ?_) (fun h => ?_) <;> (first | exact h.elim | (exfalso; omega) | exact absurd h (by assumption) | exact absurd (by assumption) h | skip)) | refine gblk ?_ | refine gexit ?_)
     | (refine kN ?_; first | refine gthen ?_ | refine gnblk ?_)
     | (refine kR ?_; first | refine grs ?_ | refine grb ?_ | refine grl ?_ | refine grc ?_)
     | (refine kX ?_; first | refine gxs ?_ | refine gxb ?_ | refine gxn rfl ?_ | refine gxl ?_ | refine gxc ?_)
     | (refine kR ?_; refine gr rfl (rvT rfl (rvT rfl rv0)) (⟨⟨_, _⟩, _⟩, _) rfl (er (elot Ent.nil)) ?_)
     | (refine kR ?_; refine gr rfl (rvT rfl (rvT rfl rv0)) (⟨⟨none, 0⟩, []⟩, _) rfl (er0 (elot0 Ent.nil)) ?_)
     | exact Pre.mk ⟨by omega, by omega⟩
     | (refine Pre.mk ?_; first | exact True.intro | omega | ((repeat' (first | refine And.intro ?_ ?_ | exact True.intro | assumption | omega)); done) | (simp only [and_true, true_and, or_true, true_or]; first | done | omega))
     | (refine kD ?_; first | exact dm_none | exact dm0 | refine dmOff rfl ?_ | refine dmOn (lvb rfl rfl) ?_ | refine dmOn (lvB rfl rfl rfl) ?_ | refine dmOn (lve rfl rfl) ?_ | refine dmOn (lvE rfl rfl rfl) ?_ | refine dmOn (lva rfl rfl rfl rfl rfl) ?_))
    · exact gnc ⟨_, _, _, _⟩ (by repeat (first | exact trivial | refine ⟨rfl, ?_⟩)) (er (elot (er (Ent.refl _)))) ⟨⟨rfl, by simp⟩, inferInstance, (pre1 (by dsimp only; omega)).2, oneY_out (by omega) (by omega) (by omega) (fun hc => by omega) (by rw [h]; rfl)⟩
    · show _ = _ ∧ _ = _
      unfold oneY; rw [if_pos h]; exact ⟨rfl, rfl⟩
    · show _ = _ ∧ _ = _
      unfold oneY; rw [if_neg (by omega), if_pos h]; exact ⟨rfl, rfl⟩
    · exact gnc ⟨_, _, _, _⟩ (by repeat (first | exact trivial | refine ⟨rfl, ?_⟩)) (er (elot (er (Ent.refl _)))) ⟨⟨rfl, by simp⟩, inferInstance, (pre2 (by dsimp only; omega) (by dsimp only; omega)).2, oneY_out (by omega) (by omega) (by omega) (fun hc => by omega) (by rw [h]; rfl)⟩
    · exact gnc ⟨⟨none, 0⟩, 0, [], _⟩ (by repeat (first | exact trivial | refine ⟨rfl, ?_⟩)) (er (elot (er0 (Ent.refl _)))) ⟨⟨rfl, by simp⟩, inferInstance, (fun y hy => by cases hy), oneY_out (by omega) (by omega) (by omega) (fun hc => by omega) (by rw [h]; rfl)⟩
    · exact gnc ⟨_, _, _, _⟩ (by repeat (first | exact trivial | refine ⟨rfl, ?_⟩)) (er (elot (er (Ent.refl _)))) ⟨⟨rfl, by simp⟩, inferInstance, (pre2 (by dsimp only; omega) (by dsimp only; omega)).2, oneY_out (by omega) (by omega) (by omega) (fun hc => by omega) (by rw [h]; rfl)⟩
    · exact gnc ⟨_, _, _, _⟩ (by repeat (first | exact trivial | refine ⟨rfl, ?_⟩)) (er (elot (er (Ent.refl _)))) ⟨⟨rfl, by simp⟩, inferInstance, (pre2 (by dsimp only; omega) (by dsimp only; omega)).2, oneY_out (by omega) (by omega) (by omega) (fun hc => by omega) (by rw [h]; rfl)⟩
    · exact gnc ⟨_, _, _, _⟩ (by repeat (first | exact trivial | refine ⟨rfl, ?_⟩)) (er (elot (er (Ent.refl _)))) ⟨⟨rfl, by simp⟩, inferInstance, (pre1 (by dsimp only; have := boolC_len (decide ((ixd x.2.gs (0 : Int)).2 = (ixd x.2.gs (1 : Int)).2)); omega)).2, oneY_out (by omega) (by omega) (by omega) (fun hc => by omega) (by rw [h]; rfl)⟩
    · exact gnc ⟨_, _, _, _⟩ (by repeat (first | exact trivial | refine ⟨rfl, ?_⟩)) (er (elot (er (Ent.refl _)))) ⟨⟨rfl, by simp⟩, inferInstance, (pre1 (by dsimp only; have := boolC_len (!trueB (ixd x.2.gs (0 : Int)).2); omega)).2, oneY_out (by omega) (by omega) (by omega) (fun hc => by omega) (by rw [h]; rfl)⟩
    · exact gnc ⟨_, _, _, _⟩ (by repeat (first | exact trivial | refine ⟨rfl, ?_⟩)) (er (elot (er (Ent.refl _)))) ⟨⟨rfl, by simp⟩, inferInstance, (pre1 (by dsimp only; rw [(shaH _).len]; omega)).2, oneY_out (by omega) (by omega) (by omega) (fun hc => by omega) (by rw [h]; rfl)⟩
    · exact gnc ⟨_, _, _, _⟩ (by repeat (first | exact trivial | refine ⟨rfl, ?_⟩)) (er (elot (er (Ent.refl _)))) ⟨⟨rfl, by simp⟩, inferInstance, (pre1 (by dsimp only; rw [(sha2 _).len]; omega)).2, oneY_out (by omega) (by omega) (by omega) (fun hc => by omega) (by rw [h]; rfl)⟩
    · have h20 : op = 20 := by assumption
      have he : numE (ixd x.2.gs (0 : Int)).2 = 0 := by assumption
      show _ = _ ∧ _ = _
      unfold oneY; rw [if_neg (by omega), if_neg (by omega), if_pos h20]
      exact ⟨rfl, by simp only [he, true_and]⟩
    · have h20 : op = 20 := by assumption
      have he : ¬ numE (ixd x.2.gs (0 : Int)).2 = 0 := by assumption
      show _ = _ ∧ _ = _
      unfold oneY; rw [if_neg (by omega), if_neg (by omega), if_pos h20]
      exact ⟨rfl, by simp only [he, false_and, decide_false]⟩
    · exact gnc ⟨_, _, _, _⟩ (by repeat (first | exact trivial | refine ⟨rfl, ?_⟩)) (er (elot (er (Ent.refl _)))) ⟨⟨rfl, by simp⟩, inferInstance, (pre1 (by dsimp only; have := boolC_len (decide ((ixd x.2.gs (1 : Int)).2.length = 32 ∧ lampE (ixd x.2.gs (1 : Int)).2 dg (ixd x.2.gs (0 : Int)).2 = 0)); omega)).2, oneY_out (by omega) (by omega) (by omega) (fun hc => by omega) (by rw [h]; rfl)⟩
    · show _ = _ ∧ _ = _
      unfold oneY; rw [if_neg (by omega), if_neg (by omega), if_neg (by omega), if_pos ⟨by omega, h⟩]
      exact ⟨rfl, rfl⟩
    · have h' := of_decide_eq_true h
      refine gnc ⟨_, _, _, _⟩ (by repeat (first | exact trivial | refine ⟨rfl, ?_⟩)) (er (elot (er (Ent.refl _)))) ⟨⟨rfl, by simp⟩, inferInstance, (pre1 (by dsimp only; omega)).2, oneY_out (by omega) (by omega) (by omega) (fun hc => by rw [h] at hc; cases hc.2) ?_⟩
      unfold outL twoS
      rw [if_neg (by omega), if_neg (by omega), if_neg (by omega), if_neg (by omega), if_neg (by omega), if_neg (by omega), if_neg (by omega), if_neg (by omega), if_neg (by omega), if_neg (by omega), if_neg (by omega)]; rfl
  · obtain ⟨sv, n, gs, l⟩ := z
    dsimp only at hz ⊢
    obtain ⟨⟨rfl, z2⟩, z3, z4, z5⟩ := hz
    rw [z5]
    have hs0 : StkN (x.1.gs.map bsK) := by rw [hx.1]; exact popC_ok hp.2.1
    have i_sk : ∀ {w0 : World} {A : Assn} {L : List Assn} {gs : List BsG} [BsR w0 no L gs], BsR w0 no (A :: L) gs := fun {w0 A L gs} [h : BsR w0 no L gs] => ⟨fun w hw => h.get w hw.tail⟩
    repeat' (first
     | (refine kO ?_; first | refine gv rfl rfl ?_ | refine gnil ?_ | refine gnilD ?_ | refine gl rfl (lvb rfl rfl) rfl (fun _ => ?_) | refine gl rfl (lvB rfl rfl rfl) rfl (fun _ => ?_) | refine gl rfl (lve rfl rfl) rfl (fun _ => ?_) | refine gl rfl (lvE rfl rfl rfl) rfl (fun _ => ?_) | refine gl rfl (lva rfl rfl rfl rfl rfl) rfl (fun _ => ?_) | refine gp rfl (by (try simp only [InR]); omega) rfl ?_ | refine gf rfl rfl rfl ?_ | refine gix rfl rfl rfl rfl (by omega) rfl (fun _ => ?_) | refine gixa rfl rfl rfl rfl (by omega) rfl (fun _ => ?_) | (refine kK ?_; first | refine gcall rfl ?_ rfl (fun _ _ => ?_) (fun _ _ => ?_) | refine gcv rfl rfl ?_ rfl (fun _ _ => ?_) (fun _ _ => ?_) | refine gcc1 rfl rfl ?_ rfl (fun _ _ => ?_) (fun _ _ => ?_)) | refine geql rfl rfl (by kernel_rfl) ?_ rfl ?_ | refine gneq rfl rfl (by kernel_rfl) ?_ rfl ?_ | refine gx rfl rfl (fun _ => ?_) (fun _ => ?_) | refine gbs RB rfl rfl rfl rfl rfl rfl (fun _ => ?_) (fun _ => ?_) | refine gbb rfl rfl rfl (by first | (simp; done) | (simp only [and_true]; omega)) rfl rfl rfl rfl (fun _ => ?_) (fun _ => ?_) | refine gb rfl rfl rfl rfl ?_ | refine gw rfl rfl ?_ | (refine kg ?_; (first | refine guardT rfl rfl rfl rfl (fun h => ?_) (fun h => ?_) | refine guardF rfl rfl rfl rfl (fun h => ?_) (fun h => ?_) | refine guardU rfl rfl rfl rfl ?_ | refine guardTH rfl rfl rfl rfl ?_ (fun h => ?_) (fun h => ?_) | refine guardFH rfl rfl rfl rfl ?_ (fun h => ?_) (fun h => ?_) | refine guardUH rfl rfl rfl rfl ?_ ?_) <;> (first | exact h.elim | (exfalso; omega) | exact absurd h (by assumption) | exact absurd (by assumption) h | skip)))
     | (refine kC ?_; first | refine gseq ?_ | refine greg ?_ | refine gret ?_ | refine gskip ?_ | refine gdraw (id := 17) [0,1,2,3,4,5,6,7] (by kernel_rfl) (by kernel_rfl) rfl ?_ | refine gdraw (id := 20) [0,1,2,3,4,5,6,7] (by kernel_rfl) (by kernel_rfl) rfl ?_ | refine gdraw (id := 22) [0,1,2,3,4,5,6,7,8,9] (by kernel_rfl) (by kernel_rfl) rfl ?_ | refine gdraw (id := 24) [0,1,2,3,4,5,6,7,8,9] (by kernel_rfl) (by kernel_rfl) rfl ?_ | refine gdraw (id := 33) [0,1,2,3,4,5,6,7,8,9,10,11] (by kernel_rfl) (by kernel_rfl) rfl ?_ | refine gdraw (id := 35) [0,1,2,3,4,5,6,7,8,9,10] (by kernel_rfl) (by kernel_rfl) rfl ?_ | (refine gcond rfl (fun h => ?_) (fun h => ?_) <;> (first | exact h.elim | (exfalso; omega) | exact absurd h (by assumption) | exact absurd (by assumption) h | skip)) | refine gblk ?_ | refine gexit ?_)
     | (refine kN ?_; first | refine gthen ?_ | refine gnblk ?_)
     | (refine kR ?_; first | refine grs ?_ | refine grb ?_ | refine grl ?_ | refine grc ?_)
     | (refine kX ?_; first | refine gxs ?_ | refine gxb ?_ | refine gxn rfl ?_ | refine gxl ?_ | refine gxc ?_)
     | (refine kR ?_; refine gr rfl (rvT rfl (rvT rfl rv0)) (⟨⟨_, _⟩, _⟩, _) rfl (er (elot Ent.nil)) ?_)
     | (refine kR ?_; refine gr rfl (rvT rfl (rvT rfl rv0)) (⟨⟨none, 0⟩, []⟩, _) rfl (er0 (elot0 Ent.nil)) ?_)
     | (refine Pre.mk ?_; first | exact True.intro | omega | ((repeat' (first | refine And.intro ?_ ?_ | exact True.intro | assumption | omega)); done) | (simp only [and_true, true_and, or_true, true_or]; first | done | omega))
     | (refine kD ?_; first | exact dm_none | exact dm0 | refine dmOff rfl ?_ | refine dmOn (lvb rfl rfl) ?_ | refine dmOn (lvB rfl rfl rfl) ?_ | refine dmOn (lve rfl rfl) ?_ | refine dmOn (lvE rfl rfl rfl) ?_ | refine dmOn (lva rfl rfl rfl rfl rfl) ?_))
    refine gloop2 [11] (fun (i : Nat) (m : Ow BsG) K => (8, .slice m.s.A m.gs.length m.s.c) :: (16, .int .i64 i) :: K) (fun i m => rw_ 22 RBs m.s m.gs.length m.gs :: lot (m.gs.map bsRow) :: rw_ 22 RBs sv gs.length gs :: l) (fun i m => i ≤ gs.length ∧ StkN (m.gs.map bsK) ∧ pushX (x.1.gs.map bsK) (gs.map bsK) = pushX (m.gs.map bsK) ((gs.drop i).map bsK)) (fun i m => gs.length - i) 0 x.1 rfl (by repeat (first | exact trivial | refine ⟨rfl, ?_⟩)) (Ent.refl _) ⟨by omega, hs0, rfl⟩ (fun i m hi => ?_)
    obtain ⟨i1, i2, i3⟩ := hi
    rw [i3]
    have hb : ∀ h : (i : Int) < gs.length, (ixd gs (i : Int)).2.length ≤ 140737488351232 := fun h => z4 _ (by rw [ixd_eq (by omega)]; exact List.getElem_mem _)
    have hd : ∀ h : (i : Int) < gs.length, (gs.drop i).map bsK = (ixd gs (i : Int)).2 :: (gs.drop (i + 1)).map bsK := fun h => by rw [List.drop_eq_getElem_cons (by omega), ixd_eq (by omega)]; rfl
    repeat' (first
     | (refine kO ?_; first | refine gv rfl rfl ?_ | refine gnil ?_ | refine gnilD ?_ | refine gl rfl (lvb rfl rfl) rfl (fun _ => ?_) | refine gl rfl (lvB rfl rfl rfl) rfl (fun _ => ?_) | refine gl rfl (lve rfl rfl) rfl (fun _ => ?_) | refine gl rfl (lvE rfl rfl rfl) rfl (fun _ => ?_) | refine gl rfl (lva rfl rfl rfl rfl rfl) rfl (fun _ => ?_) | refine gp rfl (by (try simp only [InR]); omega) rfl ?_ | refine gf rfl rfl rfl ?_ | refine gix rfl rfl rfl rfl (by omega) rfl (fun _ => ?_) | refine gixa rfl rfl rfl rfl (by omega) rfl (fun _ => ?_) | (refine kK ?_; first | refine gcall rfl ?_ rfl (fun _ _ => ?_) (fun _ _ => ?_) | refine gcv rfl rfl ?_ rfl (fun _ _ => ?_) (fun _ _ => ?_) | refine gcc1 rfl rfl ?_ rfl (fun _ _ => ?_) (fun _ _ => ?_)) | refine geql rfl rfl (by kernel_rfl) ?_ rfl ?_ | refine gneq rfl rfl (by kernel_rfl) ?_ rfl ?_ | refine gx rfl rfl (fun _ => ?_) (fun _ => ?_) | refine gbs RB rfl rfl rfl rfl rfl rfl (fun _ => ?_) (fun _ => ?_) | refine gbb rfl rfl rfl (by first | (simp; done) | (simp only [and_true]; omega)) rfl rfl rfl rfl (fun _ => ?_) (fun _ => ?_) | refine gb rfl rfl rfl rfl ?_ | refine gw rfl rfl ?_ | (refine kg ?_; (first | refine guardT rfl rfl rfl rfl (fun h => ?_) (fun h => ?_) | refine guardF rfl rfl rfl rfl (fun h => ?_) (fun h => ?_) | refine guardU rfl rfl rfl rfl ?_ | refine guardTH rfl rfl rfl rfl ?_ (fun h => ?_) (fun h => ?_) | refine guardFH rfl rfl rfl rfl ?_ (fun h => ?_) (fun h => ?_) | refine guardUH rfl rfl rfl rfl ?_ ?_) <;> (first | exact h.elim | (exfalso; omega) | exact absurd h (by assumption) | exact absurd (by assumption) h | skip)))
     | (refine kC ?_; first | refine gseq ?_ | refine greg ?_ | refine gret ?_ | refine gskip ?_ | refine gdraw (id := 17) [0,1,2,3,4,5,6,7] (by kernel_rfl) (by kernel_rfl) rfl ?_ | refine gdraw (id := 20) [0,1,2,3,4,5,6,7] (by kernel_rfl) (by kernel_rfl) rfl ?_ | refine gdraw (id := 22) [0,1,2,3,4,5,6,7,8,9] (by kernel_rfl) (by kernel_rfl) rfl ?_ | refine gdraw (id := 24) [0,1,2,3,4,5,6,7,8,9] (by kernel_rfl) (by kernel_rfl) rfl ?_ | refine gdraw (id := 33) [0,1,2,3,4,5,6,7,8,9,10,11] (by kernel_rfl) (by kernel_rfl) rfl ?_ | refine gdraw (id := 35) [0,1,2,3,4,5,6,7,8,9,10] (by kernel_rfl) (by kernel_rfl) rfl ?_ | (refine gcond rfl (fun h => ?_) (fun h => ?_) <;> (first | exact h.elim | (exfalso; omega) | exact absurd h (by assumption) | exact absurd (by assumption) h | skip)) | refine gblk ?_ | refine gexit ?_)
     | (refine kN ?_; first | refine gthen ?_ | refine gnblk ?_)
     | (refine kR ?_; first | refine grs ?_ | refine grb ?_ | refine grl ?_ | refine grc ?_)
     | (refine kX ?_; first | refine gxs ?_ | refine gxb ?_ | refine gxn rfl ?_ | refine gxl ?_ | refine gxc ?_)
     | (refine kR ?_; refine gr rfl (rvT rfl (rvT rfl rv0)) (⟨⟨_, _⟩, _⟩, _) rfl (er (elot Ent.nil)) ?_)
     | (refine kR ?_; refine gr rfl (rvT rfl (rvT rfl rv0)) (⟨⟨none, 0⟩, []⟩, _) rfl (er0 (elot0 Ent.nil)) ?_)
     | exact Pre.mk ⟨i2, hb (by assumption)⟩
     | (refine Pre.mk ?_; first | exact True.intro | omega | ((repeat' (first | refine And.intro ?_ ?_ | exact True.intro | assumption | omega)); done) | (simp only [and_true, true_and, or_true, true_or]; first | done | omega))
     | (refine kD ?_; first | exact dm_none | exact dm0 | refine dmOff rfl ?_ | refine dmOn (lvb rfl rfl) ?_ | refine dmOn (lvB rfl rfl rfl) ?_ | refine dmOn (lve rfl rfl) ?_ | refine dmOn (lvE rfl rfl rfl) ?_ | refine dmOn (lva rfl rfl rfl rfl rfl) ?_))
    · rw [hd (by assumption), pushX_no h]; exact ⟨rfl, rfl⟩
    · rename_i y hy
      refine gnl2 (i + 1) y (by repeat (first | exact trivial | refine ⟨rfl, ?_⟩)) (er (elot (er ⟨fun _ _ _ h => h.tail.tail⟩))) ⟨by omega, by rw [hy.2.1]; exact pushC_ok i2, ?_⟩ (by omega)
      rw [hd (by assumption), pushX_ok h, hy.2.1]
    · rw [List.drop_eq_nil_of_le (by omega)]; exact ⟨rfl, rfl⟩
instance c_ref14_one {op : Int} {uA : Option Addr} {uc un : Nat} {u : List UInt8} {skA : Option Addr} {skc skn : Nat} {sk : List BsG} {ht : Int} {dg : List UInt8} {w0 : World} {X : Nat → Prop} {L : List Assn} [hu : Rw w0 X L (.slice uA un uc) RB u] [hsk : Rw w0 X L (.slice skA skn skc) RBs sk] [q_sk : BsR w0 X L sk] [hdg : LenIs dg 32] : Ctr Tryd.prog 57 [Ag [.one (.int .u8 op), .one (.slice uA un uc)], .slice skA skn skc, Ag [.one (.int .u32 ht), .blk 32 (RB.all dg)]] w0 X L ((op = 1 ∨ 5 ≤ op ∧ op ≤ 20) ∧ StkN (sk.map bsK) ∧ (0 ≤ ht ∧ ht ≤ 4294967295) ∧ u.length ≤ 140737488351232) (fun o0 : Ow BsG => .tuple #[.slice o0.s.A o0.gs.length o0.s.c, .bool ((oneX op u (sk.map bsK) ht dg).2)]) (fun o0 : Ow BsG => rw_ 22 RBs o0.s o0.gs.length o0.gs :: lot (o0.gs.map bsRow) :: L) (fun o0 : Ow BsG => (True) ∧ (o0.gs.map bsK = (oneX op u (sk.map bsK) ht dg).1 ∧ o0.gs.length = ((oneX op u (sk.map bsK) ht dg).1).length)) :=
  ctr' (M' := (fun o0 : Ow BsG => [rw_ 22 RBs o0.s o0.gs.length o0.gs, lot (o0.gs.map bsRow)])) (by kernel_rfl) (fun hp w hw => by have eu := hu.len hw; subst eu; have esk := hsk.len hw; subst esk; exact ref14_one _ _ _ _ _ _ _ _ _ w (hu.get w hw) (hsk.get w hw) (q_sk.get w hw) hp) (by rintro hp ⟨o0, e1⟩ ⟨q0, rfl⟩ ok; exact ⟨o0, rfl, rfl, ⟨trivial, ⟨q0, by simpa using congrArg List.length q0⟩⟩⟩)
end Go.Proofs.YtkjpemkankefnaaDoor
