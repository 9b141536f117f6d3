/-
  exec's machine: what it holds; its small methods.
-/
import Derived.Test.YtkjpemkankefnaaDoorEh
import Derived.Test.YtkjpemkankefnaaDoorEg
import Derived.Test.YtkjpemkankefnaaDoorVshaS
import Derived.Test.YtkjpemkankefnaaDoorVref02S
set_option linter.all false
set_option maxRecDepth 100000
set_option maxHeartbeats 4000000
namespace Go.Proofs.YtkjpemkankefnaaDoor
open Go.RowKit

/-! the machine, plain -/
structure MM where
  st : List (List UInt8)
  ps : List (Int × Bool)
  e : Int
def overB (m : MM) : Bool := match m.ps with | [] => false | x :: _ => decide (x.1 ≠ 0)
def popM (m : MM) (n : Int) : MM := if popE m.st n = 0 then ⟨popC m.st n, m.ps, m.e⟩ else ⟨m.st, m.ps, 8⟩
def popL (m : MM) (n : Int) : List (List UInt8) := if popE m.st n = 0 then popX m.st n else List.replicate n.toNat []
def pushM : MM → List (List UInt8) → MM
  | m, [] => m
  | m, b :: l => if pushE m.st b = 0 then pushM ⟨pushC m.st b, m.ps, m.e⟩ l else ⟨m.st, m.ps, 8⟩
def failM (m : MM) (ok : Bool) : MM := if ok then m else ⟨m.st, m.ps, 8⟩
def numM (m : MM) (b : List UInt8) : MM := if numE b = 0 then m else ⟨m.st, m.ps, 8⟩
/-! the machine, in memory -/
abbrev PtG := Int × Bool
def RPt : Rep PtG := ⟨2, fun x => [.one (.int .i64 x.1), .one (.bool x.2)], by decide, fun _ => ⟨trivial, rfl, rfl⟩⟩
instance : SzIs RPt 2 := ⟨rfl⟩
instance {h : Int} {o : Bool} : Elm RPt (.agg (flat [.one (.int .i64 h), .one (.bool o)]).toArray) (h, o) := ⟨by simp [Value.cells, RPt]⟩
instance : ZS Tryd.prog 80 [.one (.int .i64 0), .one (.bool false)] := ⟨by kernel_rfl, OkS.one.h.1⟩
instance : EL Tryd.prog 80 2 16 := ⟨by
  obtain ⟨i, h1, h2, h3, h4⟩ := info_parts (show (Tryd.prog.info? 80).map (fun i => (i.zero, i.size, i.bytes)) = some (some (.agg (flat (RPt.sg (0, false))).toArray), 2, 16) by kernel_rfl)
  exact ⟨i, _, h1, h2, h3, h4, rfl, by decide⟩⟩
instance : ZE Tryd.prog 80 RPt (0, false) := ⟨by kernel_rfl, by kernel_rfl⟩
/-- at most 64 cells of at most 3000 bytes -/
class StkI (gs : List BsG) : Prop where
  h : StkN (gs.map bsK)
class HowI (ps : List PtG) : Prop where
  h : ∀ x ∈ ps, 0 ≤ x.1 ∧ x.1 ≤ 2
structure MG where
  st : Sv
  gs : List BsG
  pt : Sv
  ps : List PtG
  e : Int
  ok : StkI gs
  okp : HowI ps
instance (m : MG) : StkI m.gs := m.ok
instance (m : MG) : HowI m.ps := m.okp
@[reducible] def abM (gs : List BsG) (ps : List PtG) (e : Int) : MM := ⟨gs.map bsK, ps, e⟩
@[reducible] def MG.ab (m : MG) : MM := abM m.gs m.ps m.e
section
variable {w0 : World} {X : Nat → Prop} {n : Nat} {E : Env} {L L1 L2 L3 L4 M' : List Assn} {rs : List ResultVar} {vs : List Value} {fn : Func} {τ : Type} {val : MG × τ → Value} {M : MG × τ → List Assn} {φ : MG × τ → Prop}
variable {g : Nat} {ht : Int} {dg : List UInt8} {S P : Sv} {gs : List BsG} {ps : List PtG} {e : Int}
theorem eml [hb : FBox L g 57 [Cs.one (Value.slice (Sv.A S) (List.length gs) (Sv.c S)), Cs.one (Value.slice (Sv.A P) (List.length ps) (Sv.c P)), Cs.one (Value.int IntKind.u32 ht), Cs.blk 32 (Rep.all RB dg), Cs.one (Value.int IntKind.i64 e)]] [h1 : Pk L (boxA g 57 [Cs.one (Value.slice (Sv.A S) (List.length gs) (Sv.c S)), Cs.one (Value.slice (Sv.A P) (List.length ps) (Sv.c P)), Cs.one (Value.int IntKind.u32 ht), Cs.blk 32 (Rep.all RB dg), Cs.one (Value.int IntKind.i64 e)]) L1] [h2 : Pk L1 (rw_ 22 RBs S gs.length gs) L2] [h3 : Pk L2 (lot (gs.map bsRow)) L3] [h4 : Pk L3 (rw_ 80 RPt P ps.length ps.reverse) L4] (hL : Ent L4 M') : Ent L (boxA g 57 [Cs.one (Value.slice (Sv.A S) (List.length gs) (Sv.c S)), Cs.one (Value.slice (Sv.A P) (List.length ps) (Sv.c P)), Cs.one (Value.int IntKind.u32 ht), Cs.blk 32 (Rep.all RB dg), Cs.one (Value.int IntKind.i64 e)] :: rw_ 22 RBs S (List.length gs) gs :: lot (List.map bsRow gs) :: rw_ 80 RPt P (List.length ps) (List.reverse ps) :: M') :=
  Ent.cons (h := h1) (h' := Ent.cons (h := h2) (h' := Ent.cons (h := h3) (h' := Ent.cons (h := h4) (h' := hL))))
/-- a method's end -/
theorem grm (hr : fn.results = rs.toArray) (hv : RV Tryd.prog w0 X E L rs vs) (t : τ) (hk : StkI gs) (hh : HowI ps) (he : resVal vs = val (⟨S, gs, P, ps, e, hk, hh⟩, t)) (hM : M (⟨S, gs, P, ps, e, hk, hh⟩, t) = (boxA g 57 [Cs.one (Value.slice (Sv.A S) (List.length gs) (Sv.c S)), Cs.one (Value.slice (Sv.A P) (List.length ps) (Sv.c P)), Cs.one (Value.int IntKind.u32 ht), Cs.blk 32 (Rep.all RB dg), Cs.one (Value.int IntKind.i64 e)] :: rw_ 22 RBs S (List.length gs) gs :: lot (List.map bsRow gs) :: rw_ 80 RPt P (List.length ps) (List.reverse ps) :: M')) [hb : FBox L g 57 [Cs.one (Value.slice (Sv.A S) (List.length gs) (Sv.c S)), Cs.one (Value.slice (Sv.A P) (List.length ps) (Sv.c P)), Cs.one (Value.int IntKind.u32 ht), Cs.blk 32 (Rep.all RB dg), Cs.one (Value.int IntKind.i64 e)]] [h1 : Pk L (boxA g 57 [Cs.one (Value.slice (Sv.A S) (List.length gs) (Sv.c S)), Cs.one (Value.slice (Sv.A P) (List.length ps) (Sv.c P)), Cs.one (Value.int IntKind.u32 ht), Cs.blk 32 (Rep.all RB dg), Cs.one (Value.int IntKind.i64 e)]) L1] [h2 : Pk L1 (rw_ 22 RBs S gs.length gs) L2] [h3 : Pk L2 (lot (gs.map bsRow)) L3] [h4 : Pk L3 (rw_ 80 RPt P ps.length ps.reverse) L4] (hL : Ent L4 M')
    (hφ : φ (⟨S, gs, P, ps, e, hk, hh⟩, t)) : GR Tryd.prog n w0 X (.body fn (Ret w0 X val M fun r _ => φ r)) E L := gr hr hv (⟨S, gs, P, ps, e, hk, hh⟩, t) he (by rw [hM]; exact eml hL) hφ
theorem gnm (hr : fn.results = #[]) (t : τ) (hk : StkI gs) (hh : HowI ps) (he : .tuple #[] = val (⟨S, gs, P, ps, e, hk, hh⟩, t)) (hM : M (⟨S, gs, P, ps, e, hk, hh⟩, t) = (boxA g 57 [Cs.one (Value.slice (Sv.A S) (List.length gs) (Sv.c S)), Cs.one (Value.slice (Sv.A P) (List.length ps) (Sv.c P)), Cs.one (Value.int IntKind.u32 ht), Cs.blk 32 (Rep.all RB dg), Cs.one (Value.int IntKind.i64 e)] :: rw_ 22 RBs S (List.length gs) gs :: lot (List.map bsRow gs) :: rw_ 80 RPt P (List.length ps) (List.reverse ps) :: M')) [hb : FBox L g 57 [Cs.one (Value.slice (Sv.A S) (List.length gs) (Sv.c S)), Cs.one (Value.slice (Sv.A P) (List.length ps) (Sv.c P)), Cs.one (Value.int IntKind.u32 ht), Cs.blk 32 (Rep.all RB dg), Cs.one (Value.int IntKind.i64 e)]] [h1 : Pk L (boxA g 57 [Cs.one (Value.slice (Sv.A S) (List.length gs) (Sv.c S)), Cs.one (Value.slice (Sv.A P) (List.length ps) (Sv.c P)), Cs.one (Value.int IntKind.u32 ht), Cs.blk 32 (Rep.all RB dg), Cs.one (Value.int IntKind.i64 e)]) L1] [h2 : Pk L1 (rw_ 22 RBs S gs.length gs) L2] [h3 : Pk L2 (lot (gs.map bsRow)) L3] [h4 : Pk L3 (rw_ 80 RPt P ps.length ps.reverse) L4] (hL : Ent L4 M')
    (hφ : φ (⟨S, gs, P, ps, e, hk, hh⟩, t)) : GN Tryd.prog n w0 X (.body fn (Ret w0 X val M fun r _ => φ r)) E L := gnb hr (⟨S, gs, P, ps, e, hk, hh⟩, t) he (by rw [hM]; exact eml hL) hφ
end
/-! what can be read within a call that is lent something -/
theorem St.dropN {w0 w : World} {X : Nat → Prop} : ∀ {A B : List Assn}, St w0 X (A ++ B) w → St w0 X B w
  | [], _, h => h
  | _ :: _, _, h => St.dropN (St.tail h)
section
variable {w0 w : World} {X Y : Nat → Prop} {rest : List Assn} (h : ∀ L' w', St w Y L' w' → St w0 X (L' ++ rest) w')
include h
theorem Rw.lentR {v : Value} {G : Type} {R : Rep G} {gs : List G} (hr : Rw w0 X rest v R gs) (L : List Assn) : Rw w Y L v R gs := ⟨fun w' hw' => hr.get w' (h _ _ hw').dropN⟩
theorem BsR.lentR {gs : List BsG} (hr : BsR w0 X rest gs) (L : List Assn) : BsR w Y L gs := ⟨fun w' hw' => hr.get w' (h _ _ hw').dropN⟩
theorem KR.lentR (hr : KR w0 X rest) (L : List Assn) : KR w Y L := ⟨fun w' hw' => hr.get w' (h _ _ hw').dropN⟩
end
theorem popE_1 {st : List (List UInt8)} {n : Int} (h : popE st n = 0) : 0 ≤ n ∧ n ≤ st.length := by
  unfold popE at h
  split at h
  · cases h
  · split at h
    · cases h
    · omega
theorem popM_ps {m : MM} {n : Int} : (popM m n).ps = m.ps := by unfold popM; split <;> rfl
theorem failM_ps {m : MM} {b : Bool} : (failM m b).ps = m.ps := by unfold failM; split <;> rfl
theorem numM_ps {m : MM} {b : List UInt8} : (numM m b).ps = m.ps := by unfold numM; split <;> rfl
theorem pushM_ps : ∀ {l : List (List UInt8)} {m : MM}, (pushM m l).ps = m.ps
  | [], m => rfl
  | b :: l, m => by
    unfold pushM; split
    · rw [pushM_ps]
    · rfl
theorem ps_len {m : MG} {x y : MM} (hm : m.ab = x) (h : x.ps = y.ps) : m.ps.length = y.ps.length := by rw [← h, ← hm]
theorem top_r {x : PtG} {o : List PtG} : ixd (x :: o).reverse (((x :: o).length : Int) - 1) = x := by
  rw [ixd_eq (by simp)]
  simp
theorem ML_len {w0 : World} {Y : Nat → Prop} {g : Nat} {ht : Int} {dg : List UInt8} {S P : Sv} {gs : List BsG} {ps : List PtG} {e : Int} [hk : StkI gs] (hst : St w0 Y (boxA g 57 [Cs.one (Value.slice (Sv.A S) (List.length gs) (Sv.c S)), Cs.one (Value.slice (Sv.A P) (List.length ps) (Sv.c P)), Cs.one (Value.int IntKind.u32 ht), Cs.blk 32 (Rep.all RB dg), Cs.one (Value.int IntKind.i64 e)] :: rw_ 22 RBs S (List.length gs) gs :: lot (List.map bsRow gs) :: rw_ 80 RPt P (List.length ps) (List.reverse ps) :: ([])) w0) : gs.length ≤ 64 ∧ ps.length ≤ 9223372036854775807 ∧ ps.reverse.length = ps.length := by
  refine ⟨hk.h.len, ?_, List.length_reverse⟩
  have h := (Rw.of_row (w0 := w0) (X := Y) (L := (boxA g 57 [Cs.one (Value.slice (Sv.A S) (List.length gs) (Sv.c S)), Cs.one (Value.slice (Sv.A P) (List.length ps) (Sv.c P)), Cs.one (Value.int IntKind.u32 ht), Cs.blk 32 (Rep.all RB dg), Cs.one (Value.int IntKind.i64 e)] :: rw_ 22 RBs S (List.length gs) gs :: lot (List.map bsRow gs) :: rw_ 80 RPt P (List.length ps) (List.reverse ps) :: ([]))) (FRow.tl (h := FRow.tl (h := FRow.tl (h := FRow.hd)))).get).cap hst
  omega
theorem m_over {w0 : World} {Y : Nat → Prop} {g : Nat} {ht : Int} {dg : List UInt8} [hdg : LenIs dg 32] {S P : Sv} {gs : List BsG} {ps : List (Int × Bool)} {e : Int} [hk : StkI gs] [hh : HowI ps]  (hst : St w0 Y (boxA g 57 [Cs.one (Value.slice (Sv.A S) (List.length gs) (Sv.c S)), Cs.one (Value.slice (Sv.A P) (List.length ps) (Sv.c P)), Cs.one (Value.int IntKind.u32 ht), Cs.blk 32 (Rep.all RB dg), Cs.one (Value.int IntKind.i64 e)] :: rw_ 22 RBs S (List.length gs) gs :: lot (List.map bsRow gs) :: rw_ 80 RPt P (List.length ps) (List.reverse ps) :: ([])) w0) (hp : True) :
    Ct Tryd.prog 32 [.pointer (some ⟨g, 0, none⟩)] w0 Y (fun r : MG × Bool => .bool r.2) (fun r => (boxA g 57 [Cs.one (Value.slice (Sv.A (MG.st r.1)) (List.length (MG.gs r.1)) (Sv.c (MG.st r.1))), Cs.one (Value.slice (Sv.A (MG.pt r.1)) (List.length (MG.ps r.1)) (Sv.c (MG.pt r.1))), Cs.one (Value.int IntKind.u32 ht), Cs.blk 32 (Rep.all RB dg), Cs.one (Value.int IntKind.i64 (MG.e r.1))] :: rw_ 22 RBs (MG.st r.1) (List.length (MG.gs r.1)) (MG.gs r.1) :: lot (List.map bsRow (MG.gs r.1)) :: rw_ 80 RPt (MG.pt r.1) (List.length (MG.ps r.1)) (List.reverse (MG.ps r.1)) :: ([]))) (fun r => MG.ab r.1 = abM gs ps e ∧ r.2 = overB (abM gs ps e)) := by
  have hML := ML_len hst
  refine genter _ hst Tryd.func32 rfl rfl rfl rfl ?_
  repeat' (first
   | (refine kO ?_; first | refine gv rfl rfl ?_ | refine gnil ?_ | refine gnilD ?_ | refine gl rfl (lvb rfl rfl) rfl (fun _ => ?_) | refine gl rfl (lvB rfl rfl rfl) rfl (fun _ => ?_) | refine gl rfl (lve rfl rfl) rfl (fun _ => ?_) | refine gl rfl (lvE rfl rfl rfl) rfl (fun _ => ?_) | refine gl rfl (lva rfl rfl rfl rfl rfl) rfl (fun _ => ?_) | refine gp rfl (by (try simp only [InR]); omega) rfl ?_ | refine gf rfl rfl rfl ?_ | refine gix rfl rfl rfl rfl (by omega) rfl (fun _ => ?_) | refine gixa rfl rfl rfl rfl (by omega) rfl (fun _ => ?_) | (refine kK ?_; first | refine gcall rfl ?_ rfl (fun _ _ => ?_) (fun _ _ => ?_) | refine gcv rfl rfl ?_ rfl (fun _ _ => ?_) (fun _ _ => ?_) | refine gcc1 rfl rfl ?_ rfl (fun _ _ => ?_) (fun _ _ => ?_)) | refine gneq rfl rfl (by kernel_rfl) ?_ rfl ?_ | refine gw rfl rfl ?_ | (refine kg ?_; (first | refine guardT rfl rfl rfl rfl (fun h => ?_) (fun h => ?_) | refine guardF rfl rfl rfl rfl (fun h => ?_) (fun h => ?_) | refine guardU rfl rfl rfl rfl ?_ | refine guardTH rfl rfl rfl rfl ?_ (fun h => ?_) (fun h => ?_) | refine guardFH rfl rfl rfl rfl ?_ (fun h => ?_) (fun h => ?_) | refine guardUH rfl rfl rfl rfl ?_ ?_) <;> (first | exact h.elim | (exfalso; omega) | exact absurd h (by assumption) | exact absurd (by assumption) h | skip)))
   | (refine kC ?_; first | refine gseq ?_ | refine greg ?_ | refine gret ?_ | refine gskip ?_ | refine gdraw (id := 1) [0,1,2,3,4,5,6,7,8,9,10,11,12,13,14,15,16,17,18,19,20,21,22] (by kernel_rfl) (by kernel_rfl) rfl ?_)
   | (refine kN ?_; first | refine gthen ?_)
   | (refine kR ?_; first | refine grs ?_ | refine grc ?_)
   | (refine kR ?_; refine grm rfl (rvT rfl rv0) _ ?_ ?_ rfl rfl Ent.nil ?_; all_goals try infer_instance)
   | (refine Pre.mk ?_; first | exact True.intro | omega | ((repeat' (first | refine And.intro ?_ ?_ | exact True.intro | assumption | omega)); done) | (simp only [and_true, true_and, or_true, true_or]; first | done | omega))
   | (refine kD ?_; first | exact dm_none | exact dm0 | refine dmOff rfl ?_ | refine dmOn (lvb rfl rfl) ?_ | refine dmOn (lvB rfl rfl rfl) ?_ | refine dmOn (lve rfl rfl) ?_ | refine dmOn (lvE rfl rfl rfl) ?_ | refine dmOn (lva rfl rfl rfl rfl rfl) ?_))
  · obtain ⟨x, o, rfl⟩ : ∃ x o, ps = x :: o := by cases ps with | nil => exact absurd h (by simp) | cons x o => exact ⟨x, o, rfl⟩
    refine ⟨rfl, ?_⟩
    rw [top_r]; show _ = decide (x.1 ≠ 0)
    by_cases h0 : x.1 = 0 <;> simp [h0]
  · have e0 : ps = [] := List.eq_nil_of_length_eq_zero (by omega)
    subst e0; exact ⟨rfl, rfl⟩
instance c_m_over {w0 : World} {X : Nat → Prop} {L rest : List Assn} {g : Nat} {ht : Int} {dg : List UInt8} {S P : Sv} {gs : List BsG} {ps : List (Int × Bool)} {e : Int} [hdg : LenIs dg 32] [hb : FBox L g 57 [Cs.one (Value.slice (Sv.A S) (List.length gs) (Sv.c S)), Cs.one (Value.slice (Sv.A P) (List.length ps) (Sv.c P)), Cs.one (Value.int IntKind.u32 ht), Cs.blk 32 (Rep.all RB dg), Cs.one (Value.int IntKind.i64 e)]] [hs : Spl L (boxA g 57 [Cs.one (Value.slice (Sv.A S) (List.length gs) (Sv.c S)), Cs.one (Value.slice (Sv.A P) (List.length ps) (Sv.c P)), Cs.one (Value.int IntKind.u32 ht), Cs.blk 32 (Rep.all RB dg), Cs.one (Value.int IntKind.i64 e)] :: rw_ 22 RBs S (List.length gs) gs :: lot (List.map bsRow gs) :: rw_ 80 RPt P (List.length ps) (List.reverse ps) :: ([])) rest] [hk : StkI gs] [hh : HowI ps]  :
    Ctr Tryd.prog 32 [.pointer (some ⟨g, 0, none⟩)] w0 X L (True) (fun r : MG => .bool (overB (abM gs ps e))) (fun r => (boxA g 57 [Cs.one (Value.slice (Sv.A (MG.st r)) (List.length (MG.gs r)) (Sv.c (MG.st r))), Cs.one (Value.slice (Sv.A (MG.pt r)) (List.length (MG.ps r)) (Sv.c (MG.pt r))), Cs.one (Value.int IntKind.u32 ht), Cs.blk 32 (Rep.all RB dg), Cs.one (Value.int IntKind.i64 (MG.e r))] :: rw_ 22 RBs (MG.st r) (List.length (MG.gs r)) (MG.gs r) :: lot (List.map bsRow (MG.gs r)) :: rw_ 80 RPt (MG.pt r) (List.length (MG.ps r)) (List.reverse (MG.ps r)) :: rest)) (fun r => MG.ab r = abM gs ps e ∧ r.ps.length = ps.length) :=
  ⟨by kernel_rfl, fun hp w hw => by
    obtain ⟨Y, h1, h2⟩ := hw.lendS hs
    have hr := (h2 _ _ h1).dropN
    refine (m_over  h1 hp).mono fun _ w' ⟨r, he, hst, hφ⟩ => ?_
    obtain ⟨m', e0⟩ := r
    obtain ⟨hm, rfl⟩ := hφ
    exact ⟨m', he, h2 _ _ hst, hm, ps_len hm rfl⟩⟩
theorem m_fail {w0 : World} {Y : Nat → Prop} {g : Nat} {ht : Int} {dg : List UInt8} [hdg : LenIs dg 32] {S P : Sv} {gs : List BsG} {ps : List (Int × Bool)} {e : Int} [hk : StkI gs] [hh : HowI ps] {ok : Bool} (hst : St w0 Y (boxA g 57 [Cs.one (Value.slice (Sv.A S) (List.length gs) (Sv.c S)), Cs.one (Value.slice (Sv.A P) (List.length ps) (Sv.c P)), Cs.one (Value.int IntKind.u32 ht), Cs.blk 32 (Rep.all RB dg), Cs.one (Value.int IntKind.i64 e)] :: rw_ 22 RBs S (List.length gs) gs :: lot (List.map bsRow gs) :: rw_ 80 RPt P (List.length ps) (List.reverse ps) :: ([])) w0) (hp : True) :
    Ct Tryd.prog 49 [.pointer (some ⟨g, 0, none⟩), .bool ok] w0 Y (fun r : MG × Unit => .tuple #[]) (fun r => (boxA g 57 [Cs.one (Value.slice (Sv.A (MG.st r.1)) (List.length (MG.gs r.1)) (Sv.c (MG.st r.1))), Cs.one (Value.slice (Sv.A (MG.pt r.1)) (List.length (MG.ps r.1)) (Sv.c (MG.pt r.1))), Cs.one (Value.int IntKind.u32 ht), Cs.blk 32 (Rep.all RB dg), Cs.one (Value.int IntKind.i64 (MG.e r.1))] :: rw_ 22 RBs (MG.st r.1) (List.length (MG.gs r.1)) (MG.gs r.1) :: lot (List.map bsRow (MG.gs r.1)) :: rw_ 80 RPt (MG.pt r.1) (List.length (MG.ps r.1)) (List.reverse (MG.ps r.1)) :: ([]))) (fun r => MG.ab r.1 = failM (abM gs ps e) ok ∧ True) := by
  have hML := ML_len hst
  refine genter _ hst Tryd.func49 rfl rfl rfl rfl ?_
  repeat' (first
   | (refine kO ?_; first | refine gv rfl rfl ?_ | refine gnil ?_ | refine gf rfl rfl rfl ?_ | refine gst rfl rfl rfl rfl ?_ ?_ | refine ge rfl rfl rfl rfl ?_ ?_ | refine gea rfl rfl rfl rfl rfl rfl rfl ?_ ?_)
   | (refine kC ?_; first | refine gseq ?_ | refine greg ?_ | refine gret ?_ | refine gskip ?_ | (refine gcond rfl (fun h => ?_) (fun h => ?_) <;> (first | exact h.elim | (exfalso; omega) | exact absurd h (by assumption) | exact absurd (by assumption) h | skip)))
   | (refine kN ?_; first | refine gthen ?_)
   | (refine kR ?_; first | refine grs ?_ | refine grc ?_)
   | (refine kR ?_; refine grm rfl rv0 () ?_ ?_ rfl rfl Ent.nil ?_; all_goals try infer_instance)
   | (refine kN ?_; refine gnm rfl () ?_ ?_ rfl rfl Ent.nil ?_; all_goals try infer_instance)
   | (refine kD ?_; first | exact dm_none))
  · subst h; exact ⟨rfl, trivial⟩
  · subst h; exact ⟨rfl, trivial⟩
instance c_m_fail {w0 : World} {X : Nat → Prop} {L rest : List Assn} {g : Nat} {ht : Int} {dg : List UInt8} {S P : Sv} {gs : List BsG} {ps : List (Int × Bool)} {e : Int} [hdg : LenIs dg 32] [hb : FBox L g 57 [Cs.one (Value.slice (Sv.A S) (List.length gs) (Sv.c S)), Cs.one (Value.slice (Sv.A P) (List.length ps) (Sv.c P)), Cs.one (Value.int IntKind.u32 ht), Cs.blk 32 (Rep.all RB dg), Cs.one (Value.int IntKind.i64 e)]] [hs : Spl L (boxA g 57 [Cs.one (Value.slice (Sv.A S) (List.length gs) (Sv.c S)), Cs.one (Value.slice (Sv.A P) (List.length ps) (Sv.c P)), Cs.one (Value.int IntKind.u32 ht), Cs.blk 32 (Rep.all RB dg), Cs.one (Value.int IntKind.i64 e)] :: rw_ 22 RBs S (List.length gs) gs :: lot (List.map bsRow gs) :: rw_ 80 RPt P (List.length ps) (List.reverse ps) :: ([])) rest] [hk : StkI gs] [hh : HowI ps] {ok : Bool} :
    Ctr Tryd.prog 49 [.pointer (some ⟨g, 0, none⟩), .bool ok] w0 X L (True) (fun r : MG => .tuple #[]) (fun r => (boxA g 57 [Cs.one (Value.slice (Sv.A (MG.st r)) (List.length (MG.gs r)) (Sv.c (MG.st r))), Cs.one (Value.slice (Sv.A (MG.pt r)) (List.length (MG.ps r)) (Sv.c (MG.pt r))), Cs.one (Value.int IntKind.u32 ht), Cs.blk 32 (Rep.all RB dg), Cs.one (Value.int IntKind.i64 (MG.e r))] :: rw_ 22 RBs (MG.st r) (List.length (MG.gs r)) (MG.gs r) :: lot (List.map bsRow (MG.gs r)) :: rw_ 80 RPt (MG.pt r) (List.length (MG.ps r)) (List.reverse (MG.ps r)) :: rest)) (fun r => MG.ab r = failM (abM gs ps e) ok ∧ r.ps.length = ps.length) :=
  ⟨by kernel_rfl, fun hp w hw => by
    obtain ⟨Y, h1, h2⟩ := hw.lendS hs
    have hr := (h2 _ _ h1).dropN
    refine (m_fail  h1 hp).mono fun _ w' ⟨r, he, hst, hφ⟩ => ?_
    obtain ⟨m', e0⟩ := r
    obtain ⟨hm, _⟩ := hφ
    exact ⟨m', he, h2 _ _ hst, hm, ps_len hm failM_ps⟩⟩
theorem m_number {w0 : World} {Y : Nat → Prop} {g : Nat} {ht : Int} {dg : List UInt8} [hdg : LenIs dg 32] {S P : Sv} {gs : List BsG} {ps : List (Int × Bool)} {e : Int} [hk : StkI gs] [hh : HowI ps] {bA : Option Addr} {bc : Nat} {b : List UInt8} [i_b : ∀ L', Rw w0 Y L' (.slice bA b.length bc) RB b] (hst : St w0 Y (boxA g 57 [Cs.one (Value.slice (Sv.A S) (List.length gs) (Sv.c S)), Cs.one (Value.slice (Sv.A P) (List.length ps) (Sv.c P)), Cs.one (Value.int IntKind.u32 ht), Cs.blk 32 (Rep.all RB dg), Cs.one (Value.int IntKind.i64 e)] :: rw_ 22 RBs S (List.length gs) gs :: lot (List.map bsRow gs) :: rw_ 80 RPt P (List.length ps) (List.reverse ps) :: ([])) w0) (hp : True) :
    Ct Tryd.prog 54 [.pointer (some ⟨g, 0, none⟩), .slice bA b.length bc] w0 Y (fun r : MG × Int => .int .i64 r.2) (fun r => (boxA g 57 [Cs.one (Value.slice (Sv.A (MG.st r.1)) (List.length (MG.gs r.1)) (Sv.c (MG.st r.1))), Cs.one (Value.slice (Sv.A (MG.pt r.1)) (List.length (MG.ps r.1)) (Sv.c (MG.pt r.1))), Cs.one (Value.int IntKind.u32 ht), Cs.blk 32 (Rep.all RB dg), Cs.one (Value.int IntKind.i64 (MG.e r.1))] :: rw_ 22 RBs (MG.st r.1) (List.length (MG.gs r.1)) (MG.gs r.1) :: lot (List.map bsRow (MG.gs r.1)) :: rw_ 80 RPt (MG.pt r.1) (List.length (MG.ps r.1)) (List.reverse (MG.ps r.1)) :: ([]))) (fun r => MG.ab r.1 = numM (abM gs ps e) b ∧ r.2 = numN b) := by
  have hML := ML_len hst
  refine genter _ hst Tryd.func54 rfl rfl rfl rfl ?_
  repeat' (first
   | (refine kO ?_; first | refine gv rfl rfl ?_ | refine gnil ?_ | refine gp rfl (by (try simp only [InR]); omega) rfl ?_ | refine gf rfl rfl rfl ?_ | (refine kK ?_; first | refine gcall rfl ?_ rfl (fun _ _ => ?_) (fun _ _ => ?_) | refine gcv rfl rfl ?_ rfl (fun _ _ => ?_) (fun _ _ => ?_) | refine gcc1 rfl rfl ?_ rfl (fun _ _ => ?_) (fun _ _ => ?_)) | refine gneq rfl rfl (by kernel_rfl) ?_ rfl ?_ | refine gst rfl rfl rfl rfl ?_ ?_ | refine ge rfl rfl rfl rfl ?_ ?_ | refine gea rfl rfl rfl rfl rfl rfl rfl ?_ ?_)
   | (refine kC ?_; first | refine gseq ?_ | refine greg ?_ | refine gret ?_ | refine gskip ?_ | (refine gcond rfl (fun h => ?_) (fun h => ?_) <;> (first | exact h.elim | (exfalso; omega) | exact absurd h (by assumption) | exact absurd (by assumption) h | skip)))
   | (refine kN ?_; first | refine gthen ?_)
   | (refine kR ?_; first | refine grs ?_ | refine grc ?_)
   | (refine kR ?_; refine grm rfl (rvT rfl rv0) _ ?_ ?_ rfl rfl Ent.nil ?_; all_goals try infer_instance)
   | (refine Pre.mk ?_; first | exact True.intro | omega | ((repeat' (first | refine And.intro ?_ ?_ | exact True.intro | assumption | omega)); done) | (simp only [and_true, true_and, or_true, true_or]; first | done | omega))
   | (refine kD ?_; first | exact dm_none))
  · exact ⟨by unfold numM; rw [if_neg h], rfl⟩
  · exact ⟨by unfold numM; rw [if_pos h], rfl⟩
instance c_m_number {w0 : World} {X : Nat → Prop} {L rest : List Assn} {g : Nat} {ht : Int} {dg : List UInt8} {S P : Sv} {gs : List BsG} {ps : List (Int × Bool)} {e : Int} [hdg : LenIs dg 32] [hb : FBox L g 57 [Cs.one (Value.slice (Sv.A S) (List.length gs) (Sv.c S)), Cs.one (Value.slice (Sv.A P) (List.length ps) (Sv.c P)), Cs.one (Value.int IntKind.u32 ht), Cs.blk 32 (Rep.all RB dg), Cs.one (Value.int IntKind.i64 e)]] [hs : Spl L (boxA g 57 [Cs.one (Value.slice (Sv.A S) (List.length gs) (Sv.c S)), Cs.one (Value.slice (Sv.A P) (List.length ps) (Sv.c P)), Cs.one (Value.int IntKind.u32 ht), Cs.blk 32 (Rep.all RB dg), Cs.one (Value.int IntKind.i64 e)] :: rw_ 22 RBs S (List.length gs) gs :: lot (List.map bsRow gs) :: rw_ 80 RPt P (List.length ps) (List.reverse ps) :: ([])) rest] [hk : StkI gs] [hh : HowI ps] {bA : Option Addr} {bc bn : Nat} {b : List UInt8} [i_b : Rw w0 X rest (.slice bA bn bc) RB b] :
    Ctr Tryd.prog 54 [.pointer (some ⟨g, 0, none⟩), .slice bA bn bc] w0 X L (True) (fun r : MG => .int .i64 (numN b)) (fun r => (boxA g 57 [Cs.one (Value.slice (Sv.A (MG.st r)) (List.length (MG.gs r)) (Sv.c (MG.st r))), Cs.one (Value.slice (Sv.A (MG.pt r)) (List.length (MG.ps r)) (Sv.c (MG.pt r))), Cs.one (Value.int IntKind.u32 ht), Cs.blk 32 (Rep.all RB dg), Cs.one (Value.int IntKind.i64 (MG.e r))] :: rw_ 22 RBs (MG.st r) (List.length (MG.gs r)) (MG.gs r) :: lot (List.map bsRow (MG.gs r)) :: rw_ 80 RPt (MG.pt r) (List.length (MG.ps r)) (List.reverse (MG.ps r)) :: rest)) (fun r => MG.ab r = numM (abM gs ps e) b ∧ ((-9223372036854775808 ≤ numN b ∧ numN b ≤ 9223372036854775807) ∧ r.ps.length = ps.length)) :=
  ⟨by kernel_rfl, fun hp w hw => by
    obtain ⟨Y, h1, h2⟩ := hw.lendS hs
    have hr := (h2 _ _ h1).dropN
    have eb := i_b.len hr; subst eb; refine (m_number (i_b := fun L' => Rw.lentR h2 i_b L') h1 hp).mono fun _ w' ⟨r, he, hst, hφ⟩ => ?_
    obtain ⟨m', e0⟩ := r
    obtain ⟨hm, rfl⟩ := hφ
    exact ⟨m', he, h2 _ _ hst, hm, ⟨numN_b b, ps_len hm numM_ps⟩⟩⟩
theorem popE_k {st : List (List UInt8)} {k : Nat} : popE st k = 0 ↔ k ≤ st.length := by
  unfold popE
  rw [if_neg (by omega)]
  split <;> simp <;> omega
theorem popC_ok {st : List (List UInt8)} {n : Int} (h : StkN st) : StkN (popC st n) := by
  unfold popC
  split
  · exact ⟨by simp, fun c hc => by cases hc⟩
  · exact ⟨by rw [List.length_take]; have := h.1; omega, fun c hc => h.2 c (List.mem_of_mem_take hc)⟩
theorem pushC_ok {st : List (List UInt8)} {b : List UInt8} (h : StkN st) : StkN (pushC st b) := by
  unfold pushC
  split
  · exact ⟨by simp, fun c hc => by cases hc⟩
  · refine ⟨by rw [List.length_append]; have := h.1; simp; omega, fun c hc => ?_⟩
    rcases List.mem_append.1 hc with hc | hc
    · exact h.2 c hc
    · simp at hc; subst hc; omega
theorem elotR {L M : List Assn} {k : Nat} (h : Ent L M) : Ent L (lot ((List.replicate k ((⟨none, 0⟩, []) : BsG)).map bsRow) :: M) := by
  induction k with
  | zero => exact elot0 h
  | succ k ih =>
    rw [List.replicate_succ', List.map_append]
    exact ⟨fun w0 X w hw => (elotN (L := lot ((List.replicate k ((⟨none, 0⟩, []) : BsG)).map bsRow) :: M) (Ent.refl _)).go w0 X w (ih.go w0 X w hw)⟩
theorem popL_len {m : MM} {n : Int} (h : 0 ≤ n) : (popL m n).length = n.toNat := by
  obtain ⟨k, rfl⟩ := Int.eq_ofNat_of_zero_le h
  unfold popL
  split
  · rename_i h1
    have := popE_k.1 h1
    unfold popX
    rw [if_neg (by omega), List.length_drop]; omega
  · simp
theorem popL_ok {m : MM} {n : Int} (h : StkN m.st) : ∀ c ∈ popL m n, c.length ≤ 3000 := by
  intro c hc
  unfold popL at hc
  split at hc
  · unfold popX at hc
    split at hc
    · cases hc
    · exact h.2 c (List.mem_of_mem_drop hc)
  · rw [List.eq_of_mem_replicate hc]; simp
theorem ixd_getD {gs : List BsG} {i : Nat} : (ixd gs (i : Int)).2 = (gs.map bsK).getD i [] := by
  unfold ixd
  by_cases h : i < gs.length
  · simp [h]
  · simp [h]; rfl
theorem popL_fact {gs : List BsG} {m : MM} {n : Int} (h0 : 0 ≤ n) (hm : StkN m.st) (h : gs.map bsK = popL m n) : (gs.length : Int) = n ∧ (ixd gs (0 : Int)).2 = (popL m n).getD 0 [] ∧ (ixd gs (1 : Int)).2 = (popL m n).getD 1 [] ∧ (ixd gs (0 : Int)).2.length ≤ 3000 ∧ (ixd gs (1 : Int)).2.length ≤ 3000 := by
  have h1 := congrArg List.length h
  rw [popL_len h0, List.length_map] at h1
  have e0 := ixd_getD (gs := gs) (i := 0)
  have e1 := ixd_getD (gs := gs) (i := 1)
  rw [h] at e0 e1
  have hd : ∀ i, ((popL m n).getD i []).length ≤ 3000 := fun i => by
    rw [List.getD_eq_getElem?_getD]
    cases hq : (popL m n)[i]? with
    | none => simp
    | some c => exact popL_ok hm c (List.mem_of_getElem? hq)
  exact ⟨by omega, e0, e1, by rw [show (ixd gs (0 : Int)).2 = _ from e0]; exact hd 0, by rw [show (ixd gs (1 : Int)).2 = _ from e1]; exact hd 1⟩
theorem m_pop {w0 : World} {Y : Nat → Prop} {g : Nat} {ht : Int} {dg : List UInt8} [hdg : LenIs dg 32] {S P : Sv} {gs : List BsG} {ps : List (Int × Bool)} {e : Int} [hk : StkI gs] [hh : HowI ps] {n : Int} (hst : St w0 Y (boxA g 57 [Cs.one (Value.slice (Sv.A S) (List.length gs) (Sv.c S)), Cs.one (Value.slice (Sv.A P) (List.length ps) (Sv.c P)), Cs.one (Value.int IntKind.u32 ht), Cs.blk 32 (Rep.all RB dg), Cs.one (Value.int IntKind.i64 e)] :: rw_ 22 RBs S (List.length gs) gs :: lot (List.map bsRow gs) :: rw_ 80 RPt P (List.length ps) (List.reverse ps) :: ([])) w0) (hp : 0 ≤ n ∧ n ≤ 2) :
    Ct Tryd.prog 48 [.pointer (some ⟨g, 0, none⟩), .int .i64 n] w0 Y (fun r : MG × Ow BsG => .slice r.2.s.A r.2.gs.length r.2.s.c) (fun r => (boxA g 57 [Cs.one (Value.slice (Sv.A (MG.st r.1)) (List.length (MG.gs r.1)) (Sv.c (MG.st r.1))), Cs.one (Value.slice (Sv.A (MG.pt r.1)) (List.length (MG.ps r.1)) (Sv.c (MG.pt r.1))), Cs.one (Value.int IntKind.u32 ht), Cs.blk 32 (Rep.all RB dg), Cs.one (Value.int IntKind.i64 (MG.e r.1))] :: rw_ 22 RBs (MG.st r.1) (List.length (MG.gs r.1)) (MG.gs r.1) :: lot (List.map bsRow (MG.gs r.1)) :: rw_ 80 RPt (MG.pt r.1) (List.length (MG.ps r.1)) (List.reverse (MG.ps r.1)) :: (rw_ 22 RBs r.2.s r.2.gs.length r.2.gs :: lot (r.2.gs.map bsRow) :: []))) (fun r => MG.ab r.1 = popM (abM gs ps e) n ∧ r.2.gs.map bsK = popL (abM gs ps e) n) := by
  have hML := ML_len hst
  refine genter _ hst Tryd.func48 rfl rfl rfl rfl ?_
  obtain ⟨k, rfl⟩ := Int.eq_ofNat_of_zero_le hp.1
  repeat' (first
   | (refine kO ?_; first | refine gv rfl rfl ?_ | refine gnil ?_ | refine gl rfl (lvb rfl rfl) rfl (fun _ => ?_) | refine gl rfl (lvB rfl rfl rfl) rfl (fun _ => ?_) | refine gl rfl (lve rfl rfl) rfl (fun _ => ?_) | refine gl rfl (lvE rfl rfl rfl) rfl (fun _ => ?_) | refine gl rfl (lva rfl rfl rfl rfl rfl) rfl (fun _ => ?_) | refine gp rfl (by (try simp only [InR]); omega) rfl ?_ | refine gf rfl rfl rfl ?_ | (refine kK ?_; first | refine gcall rfl ?_ rfl (fun _ _ => ?_) (fun _ _ => ?_) | refine gcv rfl rfl ?_ rfl (fun _ _ => ?_) (fun _ _ => ?_) | refine gcc1 rfl rfl ?_ rfl (fun _ _ => ?_) (fun _ _ => ?_)) | refine gneq rfl rfl (by kernel_rfl) ?_ rfl ?_ | refine gst rfl rfl rfl rfl ?_ ?_ | refine ge rfl rfl rfl rfl ?_ ?_ | refine gea rfl rfl rfl rfl rfl rfl rfl ?_ ?_ | refine gm0 rfl rfl rfl (by omega) rfl (fun _ => ?_) (fun _ => ?_) | refine gm rfl rfl rfl (by omega) rfl (fun _ => ?_) (fun _ => ?_))
   | (refine kC ?_; first | refine gseq ?_ | refine greg ?_ | refine gret ?_ | refine gskip ?_ | (refine gcond rfl (fun h => ?_) (fun h => ?_) <;> (first | exact h.elim | (exfalso; omega) | exact absurd h (by assumption) | exact absurd (by assumption) h | skip)))
   | (refine kN ?_; first | refine gthen ?_)
   | (refine kR ?_; first | refine grs ?_ | refine grc ?_)
   | (refine kR ?_; refine grm rfl (rvT rfl rv0) ⟨⟨_, _⟩, _⟩ ?_ ?_ rfl rfl (er (elot Ent.nil)) ?_; all_goals try infer_instance)
   | (refine kR ?_; refine grm rfl (rvT rfl rv0) ⟨⟨none, 0⟩, []⟩ ?_ ?_ rfl rfl (er0 (elot0 Ent.nil)) ?_; all_goals try infer_instance)
   | exact Pre.mk hk.h
   | (refine Pre.mk ?_; first | exact True.intro | omega | ((repeat' (first | refine And.intro ?_ ?_ | exact True.intro | assumption | omega)); done) | (simp only [and_true, true_and, or_true, true_or]; first | done | omega))
   | (refine kD ?_; first | exact dm_none))
  · rename_i x hx y
    generalize hq : List.replicate k ((⟨none, 0⟩, []) : BsG) = q
    obtain rfl : k = q.length := by rw [← hq]; simp
    have hz : ∀ L, Ent L (lot (q.map bsRow) :: []) := fun L => by rw [← hq]; exact elotR Ent.nil
    refine grm rfl (rvT rfl rv0) ⟨y, q⟩ inferInstance inferInstance rfl rfl (er (hz _)) ⟨?_, ?_⟩
    · unfold popM; rw [if_neg h]
    · unfold popL; rw [if_neg h, ← hq]; simp [bsK]
  · rename_i x hx
    obtain ⟨a, b⟩ := x
    exact ⟨by rw [hx.2.1.1]; exact popC_ok hk.h⟩
  · rename_i x hx
    obtain ⟨a, b⟩ := x
    dsimp only at hx
    refine ⟨?_, ?_⟩
    · unfold popM; rw [if_pos h]; exact congrArg (fun t => (⟨t, ps, e⟩ : MM)) hx.2.1.1
    · unfold popL; rw [if_pos h]; exact hx.2.2.1
instance c_m_pop {w0 : World} {X : Nat → Prop} {L rest : List Assn} {g : Nat} {ht : Int} {dg : List UInt8} {S P : Sv} {gs : List BsG} {ps : List (Int × Bool)} {e : Int} [hdg : LenIs dg 32] [hb : FBox L g 57 [Cs.one (Value.slice (Sv.A S) (List.length gs) (Sv.c S)), Cs.one (Value.slice (Sv.A P) (List.length ps) (Sv.c P)), Cs.one (Value.int IntKind.u32 ht), Cs.blk 32 (Rep.all RB dg), Cs.one (Value.int IntKind.i64 e)]] [hs : Spl L (boxA g 57 [Cs.one (Value.slice (Sv.A S) (List.length gs) (Sv.c S)), Cs.one (Value.slice (Sv.A P) (List.length ps) (Sv.c P)), Cs.one (Value.int IntKind.u32 ht), Cs.blk 32 (Rep.all RB dg), Cs.one (Value.int IntKind.i64 e)] :: rw_ 22 RBs S (List.length gs) gs :: lot (List.map bsRow gs) :: rw_ 80 RPt P (List.length ps) (List.reverse ps) :: ([])) rest] [hk : StkI gs] [hh : HowI ps] {n : Int} :
    Ctr Tryd.prog 48 [.pointer (some ⟨g, 0, none⟩), .int .i64 n] w0 X L (0 ≤ n ∧ n ≤ 2) (fun r : MG × Ow BsG => .slice r.2.s.A r.2.gs.length r.2.s.c) (fun r => (boxA g 57 [Cs.one (Value.slice (Sv.A (MG.st r.1)) (List.length (MG.gs r.1)) (Sv.c (MG.st r.1))), Cs.one (Value.slice (Sv.A (MG.pt r.1)) (List.length (MG.ps r.1)) (Sv.c (MG.pt r.1))), Cs.one (Value.int IntKind.u32 ht), Cs.blk 32 (Rep.all RB dg), Cs.one (Value.int IntKind.i64 (MG.e r.1))] :: rw_ 22 RBs (MG.st r.1) (List.length (MG.gs r.1)) (MG.gs r.1) :: lot (List.map bsRow (MG.gs r.1)) :: rw_ 80 RPt (MG.pt r.1) (List.length (MG.ps r.1)) (List.reverse (MG.ps r.1)) :: (rw_ 22 RBs r.2.s r.2.gs.length r.2.gs :: lot (r.2.gs.map bsRow) :: rest))) (fun r => MG.ab r.1 = popM (abM gs ps e) n ∧ (r.1.ps.length = ps.length ∧ (r.2.gs.length : Int) = n ∧ (ixd r.2.gs (0 : Int)).2 = (popL (abM gs ps e) n).getD 0 [] ∧ (ixd r.2.gs (1 : Int)).2 = (popL (abM gs ps e) n).getD 1 [] ∧ (ixd r.2.gs (0 : Int)).2.length ≤ 3000 ∧ (ixd r.2.gs (1 : Int)).2.length ≤ 3000)) :=
  ⟨by kernel_rfl, fun hp w hw => by
    obtain ⟨Y, h1, h2⟩ := hw.lendS hs
    have hr := (h2 _ _ h1).dropN
    refine (m_pop  h1 hp).mono fun _ w' ⟨r, he, hst, hφ⟩ => ?_
    obtain ⟨m', e0⟩ := r
    obtain ⟨hm, ho⟩ := hφ
    exact ⟨(m', e0), he, h2 _ _ hst, hm, ⟨ps_len hm popM_ps, popL_fact hp.1 hk.h ho⟩⟩⟩
theorem m_push {w0 : World} {Y : Nat → Prop} {g : Nat} {ht : Int} {dg : List UInt8} [hdg : LenIs dg 32] {S P : Sv} {gs : List BsG} {ps : List (Int × Bool)} {e : Int} [hk : StkI gs] [hh : HowI ps] {lA : Option Addr} {lc : Nat} {l : List BsG} [i_l : ∀ L', Rw w0 Y L' (.slice lA l.length lc) RBs l] [j_l : ∀ L', BsR w0 Y L' l] (hst : St w0 Y (boxA g 57 [Cs.one (Value.slice (Sv.A S) (List.length gs) (Sv.c S)), Cs.one (Value.slice (Sv.A P) (List.length ps) (Sv.c P)), Cs.one (Value.int IntKind.u32 ht), Cs.blk 32 (Rep.all RB dg), Cs.one (Value.int IntKind.i64 e)] :: rw_ 22 RBs S (List.length gs) gs :: lot (List.map bsRow gs) :: rw_ 80 RPt P (List.length ps) (List.reverse ps) :: ([])) w0) (hp : l.length ≤ 1000000 ∧ ∀ x ∈ l, x.2.length ≤ 140737488351232) :
    Ct Tryd.prog 30 [.pointer (some ⟨g, 0, none⟩), .slice lA l.length lc] w0 Y (fun r : MG × Unit => .tuple #[]) (fun r => (boxA g 57 [Cs.one (Value.slice (Sv.A (MG.st r.1)) (List.length (MG.gs r.1)) (Sv.c (MG.st r.1))), Cs.one (Value.slice (Sv.A (MG.pt r.1)) (List.length (MG.ps r.1)) (Sv.c (MG.pt r.1))), Cs.one (Value.int IntKind.u32 ht), Cs.blk 32 (Rep.all RB dg), Cs.one (Value.int IntKind.i64 (MG.e r.1))] :: rw_ 22 RBs (MG.st r.1) (List.length (MG.gs r.1)) (MG.gs r.1) :: lot (List.map bsRow (MG.gs r.1)) :: rw_ 80 RPt (MG.pt r.1) (List.length (MG.ps r.1)) (List.reverse (MG.ps r.1)) :: ([]))) (fun r => MG.ab r.1 = pushM (abM gs ps e) (l.map bsK) ∧ True) := by
  have hML := ML_len hst
  refine genter _ hst Tryd.func30 rfl rfl rfl rfl ?_
  repeat' (first
   | (refine kO ?_; first | refine gv rfl rfl ?_ | refine gnil ?_ | refine gl rfl (lvb rfl rfl) rfl (fun _ => ?_) | refine gl rfl (lvB rfl rfl rfl) rfl (fun _ => ?_) | refine gl rfl (lve rfl rfl) rfl (fun _ => ?_) | refine gl rfl (lvE rfl rfl rfl) rfl (fun _ => ?_) | refine gl rfl (lva rfl rfl rfl rfl rfl) rfl (fun _ => ?_) | refine gp rfl (by (try simp only [InR]); omega) rfl ?_ | refine gf rfl rfl rfl ?_ | refine gix rfl rfl rfl rfl (by omega) rfl (fun _ => ?_) | refine gixa rfl rfl rfl rfl (by omega) rfl (fun _ => ?_) | (refine kK ?_; first | refine gcall rfl ?_ rfl (fun _ _ => ?_) (fun _ _ => ?_) | refine gcv rfl rfl ?_ rfl (fun _ _ => ?_) (fun _ _ => ?_) | refine gcc1 rfl rfl ?_ rfl (fun _ _ => ?_) (fun _ _ => ?_)) | refine gneq rfl rfl (by kernel_rfl) ?_ rfl ?_ | refine gst rfl rfl rfl rfl ?_ ?_ | refine ge rfl rfl rfl rfl ?_ ?_ | refine gea rfl rfl rfl rfl rfl rfl rfl ?_ ?_ | refine gw rfl rfl ?_)
   | (refine kC ?_; first | refine gseq ?_ | refine greg ?_ | refine gret ?_ | refine gskip ?_ | (refine gcond rfl (fun h => ?_) (fun h => ?_) <;> (first | exact h.elim | (exfalso; omega) | exact absurd h (by assumption) | exact absurd (by assumption) h | skip)) | refine gblk ?_ | refine gexit ?_)
   | (refine kN ?_; first | refine gthen ?_ | refine gnblk ?_)
   | (refine kR ?_; first | refine grs ?_ | refine grb ?_ | refine grl ?_ | refine grc ?_)
   | (refine kX ?_; first | refine gxs ?_ | refine gxb ?_ | refine gxn rfl ?_ | refine gxl ?_ | refine gxc ?_)
   | (refine kR ?_; refine grm rfl rv0 () ?_ ?_ rfl rfl Ent.nil ?_; all_goals try infer_instance)
   | (refine kN ?_; refine gnm rfl () ?_ ?_ rfl rfl Ent.nil ?_; all_goals try infer_instance)
   | (refine Pre.mk ?_; first | exact True.intro | omega | ((repeat' (first | refine And.intro ?_ ?_ | exact True.intro | assumption | omega)); done) | (simp only [and_true, true_and, or_true, true_or]; first | done | omega))
   | (refine kD ?_; first | exact dm_none))
  refine gloop2 [0, 8, 9] (fun (i : Nat) (m : MG) K => (10, .int .i64 i) :: K) (fun i m => (boxA g 57 [Cs.one (Value.slice (Sv.A m.st) (List.length m.gs) (Sv.c m.st)), Cs.one (Value.slice (Sv.A m.pt) (List.length m.ps) (Sv.c m.pt)), Cs.one (Value.int IntKind.u32 ht), Cs.blk 32 (Rep.all RB dg), Cs.one (Value.int IntKind.i64 m.e)] :: rw_ 22 RBs m.st (List.length m.gs) m.gs :: lot (List.map bsRow m.gs) :: rw_ 80 RPt m.pt (List.length m.ps) (List.reverse m.ps) :: ([]))) (fun i m => i ≤ l.length ∧ pushM (abM gs ps e) (l.map bsK) = pushM m.ab ((l.drop i).map bsK)) (fun i m => l.length - i) 0 ⟨S, gs, P, ps, e, hk, hh⟩ rfl (by repeat (first | exact trivial | refine ⟨rfl, ?_⟩)) (Ent.refl _) ⟨by omega, rfl⟩ (fun i m hi => ?_)
  have hb : ∀ h : (i : Int) < l.length, (ixd l (i : Int)).2.length ≤ 140737488351232 := fun h => hp.2 _ (by rw [ixd_eq (by omega)]; exact List.getElem_mem _)
  have hd : ∀ h : (i : Int) < l.length, (l.drop i).map bsK = (ixd l (i : Int)).2 :: (l.drop (i + 1)).map bsK := fun h => by rw [List.drop_eq_getElem_cons (by omega), ixd_eq (by omega)]; rfl
  repeat' (first
   | (refine kO ?_; first | refine gv rfl rfl ?_ | refine gnil ?_ | refine gl rfl (lvb rfl rfl) rfl (fun _ => ?_) | refine gl rfl (lvB rfl rfl rfl) rfl (fun _ => ?_) | refine gl rfl (lve rfl rfl) rfl (fun _ => ?_) | refine gl rfl (lvE rfl rfl rfl) rfl (fun _ => ?_) | refine gl rfl (lva rfl rfl rfl rfl rfl) rfl (fun _ => ?_) | refine gp rfl (by (try simp only [InR]); omega) rfl ?_ | refine gf rfl rfl rfl ?_ | refine gix rfl rfl rfl rfl (by omega) rfl (fun _ => ?_) | refine gixa rfl rfl rfl rfl (by omega) rfl (fun _ => ?_) | (refine kK ?_; first | refine gcall rfl ?_ rfl (fun _ _ => ?_) (fun _ _ => ?_) | refine gcv rfl rfl ?_ rfl (fun _ _ => ?_) (fun _ _ => ?_) | refine gcc1 rfl rfl ?_ rfl (fun _ _ => ?_) (fun _ _ => ?_)) | refine gneq rfl rfl (by kernel_rfl) ?_ rfl ?_ | refine gst rfl rfl rfl rfl ?_ ?_ | refine ge rfl rfl rfl rfl ?_ ?_ | refine gea rfl rfl rfl rfl rfl rfl rfl ?_ ?_ | refine gw rfl rfl ?_)
   | (refine kC ?_; first | refine gseq ?_ | refine greg ?_ | refine gret ?_ | refine gskip ?_ | (refine gcond rfl (fun h => ?_) (fun h => ?_) <;> (first | exact h.elim | (exfalso; omega) | exact absurd h (by assumption) | exact absurd (by assumption) h | skip)) | refine gblk ?_ | refine gexit ?_)
   | (refine kN ?_; first | refine gthen ?_ | refine gnblk ?_)
   | (refine kR ?_; first | refine grs ?_ | refine grb ?_ | refine grl ?_ | refine grc ?_)
   | (refine kX ?_; first | refine gxs ?_ | refine gxb ?_ | refine gxn rfl ?_ | refine gxl ?_ | refine gxc ?_)
   | (refine kR ?_; refine grm rfl rv0 () ?_ ?_ rfl rfl Ent.nil ?_; all_goals try infer_instance)
   | (refine kN ?_; refine gnm rfl () ?_ ?_ rfl rfl Ent.nil ?_; all_goals try infer_instance)
   | exact Pre.mk ⟨m.ok.h, hb (by assumption)⟩
   | (refine Pre.mk ?_; first | exact True.intro | omega | ((repeat' (first | refine And.intro ?_ ?_ | exact True.intro | assumption | omega)); done) | (simp only [and_true, true_and, or_true, true_or]; first | done | omega))
   | (refine kD ?_; first | exact dm_none))
  · refine ⟨?_, trivial⟩
    rw [hi.2, hd (by assumption), pushM, if_neg h]
  · rename_i x hx
    refine gnl2 (i + 1) ⟨x.s, x.gs, m.pt, m.ps, m.e, ⟨by rw [hx.2.1]; exact pushC_ok m.ok.h⟩, inferInstance⟩ (by repeat (first | exact trivial | refine ⟨rfl, ?_⟩)) (eml Ent.nil) ⟨by omega, ?_⟩ (by omega)
    rw [hi.2, hd (by assumption), pushM, if_pos h]
    exact congrArg (fun t => pushM ⟨t, m.ps, m.e⟩ _) hx.2.1.symm
  · refine ⟨?_, trivial⟩
    rw [hi.2, List.drop_eq_nil_of_le (by omega)]; rfl
instance c_m_push {w0 : World} {X : Nat → Prop} {L rest : List Assn} {g : Nat} {ht : Int} {dg : List UInt8} {S P : Sv} {gs : List BsG} {ps : List (Int × Bool)} {e : Int} [hdg : LenIs dg 32] [hb : FBox L g 57 [Cs.one (Value.slice (Sv.A S) (List.length gs) (Sv.c S)), Cs.one (Value.slice (Sv.A P) (List.length ps) (Sv.c P)), Cs.one (Value.int IntKind.u32 ht), Cs.blk 32 (Rep.all RB dg), Cs.one (Value.int IntKind.i64 e)]] [hs : Spl L (boxA g 57 [Cs.one (Value.slice (Sv.A S) (List.length gs) (Sv.c S)), Cs.one (Value.slice (Sv.A P) (List.length ps) (Sv.c P)), Cs.one (Value.int IntKind.u32 ht), Cs.blk 32 (Rep.all RB dg), Cs.one (Value.int IntKind.i64 e)] :: rw_ 22 RBs S (List.length gs) gs :: lot (List.map bsRow gs) :: rw_ 80 RPt P (List.length ps) (List.reverse ps) :: ([])) rest] [hk : StkI gs] [hh : HowI ps] {lA : Option Addr} {lc ln : Nat} {l : List BsG} [i_l : Rw w0 X rest (.slice lA ln lc) RBs l] [j_l : BsR w0 X rest l] :
    Ctr Tryd.prog 30 [.pointer (some ⟨g, 0, none⟩), .slice lA ln lc] w0 X L (l.length ≤ 1000000 ∧ ∀ x ∈ l, x.2.length ≤ 140737488351232) (fun r : MG => .tuple #[]) (fun r => (boxA g 57 [Cs.one (Value.slice (Sv.A (MG.st r)) (List.length (MG.gs r)) (Sv.c (MG.st r))), Cs.one (Value.slice (Sv.A (MG.pt r)) (List.length (MG.ps r)) (Sv.c (MG.pt r))), Cs.one (Value.int IntKind.u32 ht), Cs.blk 32 (Rep.all RB dg), Cs.one (Value.int IntKind.i64 (MG.e r))] :: rw_ 22 RBs (MG.st r) (List.length (MG.gs r)) (MG.gs r) :: lot (List.map bsRow (MG.gs r)) :: rw_ 80 RPt (MG.pt r) (List.length (MG.ps r)) (List.reverse (MG.ps r)) :: rest)) (fun r => MG.ab r = pushM (abM gs ps e) (l.map bsK) ∧ r.ps.length = ps.length) :=
  ⟨by kernel_rfl, fun hp w hw => by
    obtain ⟨Y, h1, h2⟩ := hw.lendS hs
    have hr := (h2 _ _ h1).dropN
    have el := i_l.len hr; subst el; refine (m_push (i_l := fun L' => Rw.lentR h2 i_l L') (j_l := fun L' => BsR.lentR h2 j_l L') h1 hp).mono fun _ w' ⟨r, he, hst, hφ⟩ => ?_
    obtain ⟨m', e0⟩ := r
    obtain ⟨hm, _⟩ := hφ
    exact ⟨m', he, h2 _ _ hst, hm, ps_len hm pushM_ps⟩⟩
end Go.Proofs.YtkjpemkankefnaaDoor
