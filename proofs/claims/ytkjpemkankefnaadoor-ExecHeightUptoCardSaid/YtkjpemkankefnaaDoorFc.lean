/-
  Ew + Ey + Ez
-/
import Derived.Test.YtkjpemkankefnaaDoorFb
import Derived.Laws.Small
set_option linter.all false
set_option maxRecDepth 100000
set_option maxHeartbeats 4000000
/-!
  moneyerlaw14: ExecParts.
-/
namespace Go.Proofs.YtkjpemkankefnaaDoor
open Go.RowKit

section
variable {P : Program} {n : Nat} {w0 : World} {X : Nat → Prop} {Q : Cont} {E : Env} {L : List Assn} {s : Ms} {ops : Array Oper} {rest : List Oper}
variable {d : Nat} {ty : TypeId} {pos : String} {aft : Array Edge}
theorem gmin {x y : Operand} {k k' : IntKind} {i j : Int} {ats : Array TypeId} (hx : eev E x = some (.int k i)) (hy : eev E y = some (.int k' j)) (hd : Nat.blt d n = true) (hD : Dm w0 X ops s L)
    (kk : ∀ m : Int, (m ≤ i ∧ m ≤ j ∧ (m = i ∨ m = j)) → GO P n w0 X (nextM s) ops rest Q ((d, .int k m) :: E) L) : GO P n w0 X s ops (⟨some d, .call { callee := .builtin .min, args := #[x, y], argTypes := ats }, ty, pos, aft, none⟩ :: rest) Q E L := by
  refine go_hv (ρ := Unit) (E' := fun _ => (d, .int k (if j < i then j else i)) :: E) (L' := fun _ => L) (φ := fun _ => True) rfl (fun w hw rest Q k' => ?_) (fun _ _ => hD) (fun _ _ => kk _ (by split <;> omega))
  refine tl_run (w' := w) (fun a ha => ?_) hd (k' () w trivial hw)
  simp only [execOp, resolve, invoke, builtin, Sem.run_bind, Sem.run_pure, Result.andThen_ok, List.map_toArray, List.map_cons, List.map_nil, ha.ev hx, ha.ev hy, run_min_int2]
end
theorem scan_app : ∀ {a b : List Int} {o : List Bool}, scan (a ++ b) o = (scan a o).bind (scan b)
  | [], b, o => rfl
  | c :: a, b, o => by
    rw [List.cons_append]
    by_cases h2 : c = 2
    · rw [sc_if h2, sc_if h2]; exact scan_app
    · by_cases h3 : c = 3
      · cases o with
        | nil => rw [sc_e0 h3, sc_e0 h3]; rfl
        | cons y o' =>
          cases y with
          | true => rw [sc_e2 h3, sc_e2 h3]; rfl
          | false => rw [sc_e1 h3, sc_e1 h3]; exact scan_app
      · by_cases h4 : c = 4
        · cases o with
          | nil => rw [sc_n0 h4, sc_n0 h4]; rfl
          | cons y o' => rw [sc_n1 h4, sc_n1 h4]; exact scan_app
        · rw [sc_o h2 h3 h4, sc_o h2 h3 h4]; exact scan_app
theorem stepsX_no {l : List Stp} {st : List (List UInt8)} {ht : Int} {dg : List UInt8} (h : ¬ putSE l = 0) : stepsX l st ht dg = ([], 8) := by unfold stepsX; rw [if_neg h]
theorem stepsX_yes {l : List Stp} {st : List (List UInt8)} {ht : Int} {dg : List UInt8} (h : putSE l = 0) : stepsX l st ht dg = resM (stepsG ht dg l (pushM ⟨[], [], 0⟩ st)) := by unfold stepsX; rw [if_pos h]
theorem putSE_may {l : List Stp} (h : MayL l) (h2 : l.length ≤ 200) : putSE l = 0 := by unfold putSE; rw [if_neg (not_not_intro h), if_neg (by omega)]
theorem parts_law {p q l : List Stp} {st : List (List UInt8)} {ht : Int} {dg : List UInt8} (e : l = p ++ q) (hp : soundB (opsS p) = true) (hq : soundB (opsS q) = true) (hl : l.length ≤ 200) :
    soundB (opsS l) = true ∧ stepsX l st ht dg = if (stepsX p st ht dg).2 = 0 then stepsX q (stepsX p st ht dg).1 ht dg else stepsX p st ht dg := by
  subst e
  rw [List.length_append] at hl
  have sp := of_decide_eq_true hp
  have sq := of_decide_eq_true hq
  refine ⟨decide_eq_true ?_, ?_⟩
  · unfold opsS; rw [List.map_append, scan_app]
    rw [show scan (List.map (·.1) p) [] = some [] from sp]; exact sq
  · by_cases hmp : putSE p = 0
    · have mp := (putSE_0 hmp).1
      rw [stepsX_yes hmp]
      -- the first part
      have hm0 := pushM_stk (b := st) (a := []) stk_nil
      rw [List.nil_append] at hm0
      have hst : StkN (pushM ⟨[], [], 0⟩ st).st := pushM_stk2 stk_nil
      have key : (pushM ⟨[], [], 0⟩ st).ps = [] := pushM_ps
      generalize hM : pushM ⟨[], [], 0⟩ st = m0 at *
      by_cases he : (stepsG ht dg p m0).e = 0
      · have e0 : m0.e = 0 := by
          apply Classical.byContradiction; intro h; rw [stepsG_e h] at he; exact h he
        have t := track he
        rw [key, show bs2 ([] : List PtG) = [] from rfl, sp] at t
        have e1 : (stepsG ht dg p m0).ps = [] := List.map_eq_nil_iff.1 (Option.some.inj t).symm
        have e2 : resM (stepsG ht dg p m0) = ((stepsG ht dg p m0).st, 0) := by unfold resM; rw [if_pos ⟨he, e1⟩]
        rw [e2, if_pos rfl]
        by_cases hmq : putSE q = 0
        · have mq := (putSE_0 hmq).1
          have hpq : putSE (p ++ q) = 0 := putSE_may (fun x hx => (List.mem_append.1 hx).elim (mp x) (mq x)) (by rw [List.length_append]; exact hl)
          have hs1 : StkN (stepsG ht dg p m0).st := stepsG_stk hst
          have hm1 := (pushM_stk (b := (stepsG ht dg p m0).st) (a := []) stk_nil).1
          rw [List.nil_append] at hm1
          rw [stepsX_yes hpq, stepsX_yes hmq, hM, stepsG_app, hm1 hs1]
          congr 2
          cases hz : stepsG ht dg p m0 with
          | mk a b c => rw [hz] at he e1; simp only at he e1; rw [he, e1]
        · have hpq : ¬ putSE (p ++ q) = 0 := fun h => hmq (putSE_may (fun x hx => (putSE_0 h).1 x (List.mem_append_right _ hx)) (by omega))
          rw [stepsX_no hpq, stepsX_no hmq]
      · rw [resM_e he, if_neg (by decide)]
        by_cases hpq : putSE (p ++ q) = 0
        · rw [stepsX_yes hpq, hM, stepsG_app, stepsG_e he]; exact resM_e he
        · exact stepsX_no hpq
    · have hpq : ¬ putSE (p ++ q) = 0 := fun h => hmp (putSE_may (fun x hx => (putSE_0 h).1 x (List.mem_append_left _ hx)) (by omega))
      rw [stepsX_no hpq, stepsX_no hmp, if_neg (by decide)]
theorem stn_cut {l : List StG} {a b : Nat} (h : StN l) : StN ((l.drop a).take b) := fun g hg => h g (List.mem_of_mem_drop (List.mem_of_mem_take hg))
theorem cut_len {l : List StG} {a b : Nat} : ((l.drop a).take b).length ≤ l.length := by rw [List.length_take, List.length_drop]; omega
theorem parts_k {l : List StG} {z : Int} {s : List BsG} {ht : Int} {dg : List UInt8} (h1 : soundB (opsK (List.take z.toNat (List.drop (Int.toNat 0) l))) = true) (h2 : soundB (opsK (List.take (l.length - z.toNat) (List.drop z.toNat l))) = true) (h3 : z ≤ l.length) (hl : (l.length : Int) ≤ 200) :
    soundB (opsK l) = true ∧ stepsX (l.map stK) (s.map bsK) ht dg = if (stepsX ((List.take z.toNat (List.drop (Int.toNat 0) l)).map stK) (s.map bsK) ht dg).2 = 0 then stepsX ((List.take (l.length - z.toNat) (List.drop z.toNat l)).map stK) (stepsX ((List.take z.toNat (List.drop (Int.toNat 0) l)).map stK) (s.map bsK) ht dg).1 ht dg else stepsX ((List.take z.toNat (List.drop (Int.toNat 0) l)).map stK) (s.map bsK) ht dg := by
  have e : l.map stK = (List.take z.toNat (List.drop (Int.toNat 0) l)).map stK ++ (List.take (l.length - z.toNat) (List.drop z.toNat l)).map stK := by
    rw [← List.map_append]
    congr 1
    rw [show (Int.toNat 0) = 0 from rfl, List.drop_zero, List.take_of_length_le (l := List.drop z.toNat l) (by rw [List.length_drop]; omega), List.take_append_drop]
  rw [opsK_S] at h1 h2 ⊢
  exact parts_law e h1 h2 (by rw [List.length_map]; omega)
theorem law14_Parts (lA : Option Addr) (lc : Nat) (l : List StG) (n : Int) (sA : Option Addr) (sc : Nat) (s : List BsG) (ht : Int) (dg : List UInt8) [hdg : LenIs dg 32] (w0 : World) (hK : KOk w0) (hl : Slr w0 RSt (.slice lA l.length lc) l) (q_l : StP w0 l) (hs : Slr w0 RBs (.slice sA s.length sc) s) (q_s : BsP w0 s) (hp : (0 ≤ ht ∧ ht ≤ 4294967295) ∧ StN l ∧ (∀ g ∈ l, g.push.length ≤ 1099511627776) ∧ (∀ x ∈ s, x.2.length ≤ 1099511627776) ∧ 0 ≤ n ∧ n ≤ 255) :
    Ct Tryd.prog 6 [.slice lA l.length lc, .int .u8 n, .slice sA s.length sc, Ag [.one (.int .u32 ht), .blk 32 (RB.all dg)]] w0 no (fun ((e0) : Bool) => .bool e0) (fun (e0) => []) (fun (e0) => e0 = true) := by
  have hst := St.start w0
  have j_hK := KR.old hK
  have i_l := Rw.old hl
  have j_l := StR.old q_l
  have i_s := Rw.old hs
  have j_s := BsR.old q_s
  refine genter _ hst Tryd.func6 rfl rfl rfl rfl ?_
  have hc2 := fun a b => cut_len (l := l) (a := a) (b := b)
  repeat' (first
   | (refine kO ?_; first | refine gmin rfl rfl rfl ?_ (fun _ _ => ?_) | refine gv rfl rfl ?_ | refine gnil ?_ | refine gnilD ?_ | refine gl rfl (lvb rfl rfl) rfl (fun _ => ?_) | refine gl rfl (lvB rfl rfl rfl) rfl (fun _ => ?_) | refine gl rfl (lve rfl rfl) rfl (fun _ => ?_) | refine gl rfl (lvE rfl rfl rfl) rfl (fun _ => ?_) | refine gl rfl (lva rfl rfl rfl rfl rfl) rfl (fun _ => ?_) | refine gp rfl (by (try simp only [InR]); omega) rfl ?_ | refine gc3 rfl rfl rfl rfl rfl rfl (by omega) rfl (fun _ => ?_) | refine gc2 rfl rfl rfl rfl rfl (by omega) rfl (fun _ => ?_) | refine gch rfl rfl rfl rfl (by omega) rfl (fun _ => ?_) | refine gcl rfl rfl rfl rfl (by omega) rfl (fun _ => ?_) | refine gca rfl rfl rfl rfl ?_ | refine gchm rfl rfl rfl rfl rfl (by omega) rfl (fun _ => ?_) | (refine kK ?_; first | refine gcall rfl ?_ rfl (fun _ _ => ?_) (fun _ _ => ?_) | refine gcv rfl rfl ?_ rfl (fun _ _ => ?_) (fun _ _ => ?_) | refine gcc1 rfl rfl ?_ rfl (fun _ _ => ?_) (fun _ _ => ?_)) | refine geql rfl rfl (by kernel_rfl) ?_ rfl ?_ | refine gx rfl rfl (fun _ => ?_) (fun _ => ?_) | refine gb rfl rfl rfl rfl ?_ | refine gw rfl rfl ?_ | (refine kg ?_; (first | refine guardT rfl rfl rfl rfl (fun h => ?_) (fun h => ?_) | refine guardF rfl rfl rfl rfl (fun h => ?_) (fun h => ?_) | refine guardU rfl rfl rfl rfl ?_ | refine guardTH rfl rfl rfl rfl ?_ (fun h => ?_) (fun h => ?_) | refine guardFH rfl rfl rfl rfl ?_ (fun h => ?_) (fun h => ?_) | refine guardUH rfl rfl rfl rfl ?_ ?_) <;> (first | exact h.elim | (exfalso; omega) | exact absurd h (by assumption) | exact absurd (by assumption) h | skip)))
   | (refine kC ?_; first | refine gseq ?_ | refine greg ?_ | refine gret ?_ | refine gskip ?_ | refine gdraw (id := 7) [0,1,2,3,4,5,6,7,8,9,10] (by kernel_rfl) (by kernel_rfl) rfl ?_ | refine gdraw (id := 9) [0,1,2,3,4,5,6,7,8,9,10] (by kernel_rfl) (by kernel_rfl) rfl ?_ | (refine gcond rfl (fun h => ?_) (fun h => ?_) <;> (first | exact h.elim | (exfalso; omega) | exact absurd h (by assumption) | exact absurd (by assumption) h | skip)))
   | (refine kN ?_; first | refine gthen ?_)
   | (refine kR ?_; first | refine grs ?_ | refine grc ?_)
   | (refine kR ?_; refine gr rfl (rvT rfl rv0) (_) rfl Ent.nil ?_)
   | exact Pre.mk ⟨hp.2.2.1, hp.2.2.2.1⟩
   | exact Pre.mk ⟨stn_cut hp.2.1, Nat.le_trans (hc2 _ _) (by omega)⟩
   | exact Pre.mk ⟨hp.2.1, by omega⟩
   | exact Pre.mk ⟨hp.2.1, hp.1, bs_big (by omega) hp.2.2.2.1⟩
   | exact Pre.mk ⟨stn_cut hp.2.1, hp.1, bs_big (by omega) hp.2.2.2.1⟩
   | exact Pre.mk ⟨stn_cut hp.2.1, hp.1, bnd_of (stk_of (by assumption))⟩
   | (refine Pre.mk ?_; first | exact True.intro | omega | ((repeat' (first | refine And.intro ?_ ?_ | exact True.intro | assumption | omega)); done) | (simp only [and_true, true_and, or_true, true_or]; first | done | omega))
   | (refine kD ?_; first | exact dm_none | exact dm0 | refine dmOff rfl ?_ | refine dmOn (lvb rfl rfl) ?_ | refine dmOn (lvB rfl rfl rfl) ?_ | refine dmOn (lve rfl rfl) ?_ | refine dmOn (lvE rfl rfl rfl) ?_ | refine dmOn (lva rfl rfl rfl rfl rfl) ?_))
  all_goals first
    | rfl
    | (exfalso
       have K := parts_k (s := s) (ht := ht) (dg := dg) (by assumption) (by assumption) (by omega) (by omega)
       rename (True ∧ List.map bsK _ = (stepsX (List.map stK l) (List.map bsK s) ht dg).1 ∧ _) => ha
       rename (True ∧ List.map bsK _ = (stepsX (List.map stK (List.take _ (List.drop (Int.toNat 0) l))) _ ht dg).1 ∧ _) => hb
       have hb1 := hb.2.1
       have ha1 := ha.2.1
       clear hc2 hp ha hb
       grind)
instance c_law14_Parts {lA : Option Addr} {lc ln : Nat} {l : List StG} {n : Int} {sA : Option Addr} {sc sn : Nat} {s : List BsG} {ht : Int} {dg : List UInt8} {w0 : World} {X : Nat → Prop} {L : List Assn} [hK : KR w0 X L] [hl : Rw w0 X L (.slice lA ln lc) RSt l] [q_l : StR w0 X L l] [hs : Rw w0 X L (.slice sA sn sc) RBs s] [q_s : BsR w0 X L s] [hdg : LenIs dg 32] : Ctr Tryd.prog 6 [.slice lA ln lc, .int .u8 n, .slice sA sn sc, Ag [.one (.int .u32 ht), .blk 32 (RB.all dg)]] w0 X L ((0 ≤ ht ∧ ht ≤ 4294967295) ∧ StN l ∧ (∀ g ∈ l, g.push.length ≤ 1099511627776) ∧ (∀ x ∈ s, x.2.length ≤ 1099511627776) ∧ 0 ≤ n ∧ n ≤ 255) (fun _ : Unit => .bool (true)) (fun _ : Unit => L) (fun _ : Unit => True) :=
  ctr' (M' := (fun _ : Unit => [])) (by kernel_rfl) (fun hp w hw => by have el := hl.len hw; subst el; have es := hs.len hw; subst es; exact law14_Parts _ _ _ _ _ _ _ _ _ w (hK.get w hw) (hl.get w hw) (q_l.get w hw) (hs.get w hw) (q_s.get w hw) hp) (by rintro hp e0 rfl ok; exact ⟨(), rfl, rfl, trivial⟩)
end Go.Proofs.YtkjpemkankefnaaDoor

/-!
  moneyerlaw14: ExecSound.
-/
namespace Go.Proofs.YtkjpemkankefnaaDoor
open Go.RowKit

theorem sound_of {l : List Stp} {st : List (List UInt8)} {ht : Int} {dg : List UInt8} (h : (stepsX l st ht dg).2 = 0) : soundB (opsS l) = true := by
  rw [steps_ref] at h
  apply Classical.byContradiction; intro hn
  rw [refX_no (fun hc => hn hc.2.2)] at h
  cases h
/-- an OpIf that is not done around a sound list -/
theorem around {l m : List Stp} {st : List (List UInt8)} {ht : Int} {dg : List UInt8} (e : m = (1, []) :: (2, []) :: (l ++ [(4, [])])) (h : putSE m = 0) (hs : soundB (opsS l) = true) (hst : StkN st) (h60 : st.length ≤ 60) : stepsX m st ht dg = (st, 0) := by
  subst e
  have sl := of_decide_eq_true hs
  have hm := (pushM_stk (b := st) (a := []) stk_nil).1
  rw [List.nil_append] at hm
  rw [stepsX_yes h, hm hst]
  have hpe : pushE st [] = 0 := by unfold pushE; rw [if_neg]; rintro (h1 | h1); omega; simp at h1
  have hpc : pushC st [] = st ++ [[]] := by unfold pushC; rw [if_neg]; rintro (h1 | h1); omega; simp at h1
  have e1 : oneM ⟨st, [], 0⟩ (1, []) ht dg = ⟨st ++ [[]], [], 0⟩ := by
    show pushM ⟨st, [], 0⟩ [[]] = _
    rw [pushM, if_pos hpe, hpc]; rfl
  have hp1 : popE (st ++ [[]]) 1 = 0 := by unfold popE; rw [if_neg (by decide), if_neg (by rw [List.length_append, List.length_singleton]; omega)]
  have hc1 : popC (st ++ [[]]) 1 = st := by
    unfold popC; rw [if_neg (by rw [List.length_append, List.length_singleton]; omega)]
    rw [List.length_append, show st.length + [([] : List UInt8)].length - (1 : Int).toNat = st.length by simp, List.take_left' rfl]
  have hx1 : popX (st ++ [[]]) 1 = [[]] := by
    unfold popX; rw [if_neg (by rw [List.length_append, List.length_singleton]; omega)]
    rw [List.length_append, show st.length + [([] : List UInt8)].length - (1 : Int).toNat = st.length by simp, List.drop_left' rfl]
  rw [stepsG_c rfl, e1, stepsG_c rfl, if_push rfl hp1, hx1, hc1]
  rw [show (if trueB (([[]] : List (List UInt8)).getD 0 []) = true then (0 : Int) else 1) = 1 from rfl, stepsG_app, pass0 rfl sl, stepsG_c rfl, end_ rfl]
  rfl
instance StR.app {w0 : World} {X : Nat → Prop} {L : List Assn} {a b : List StG} [h : StR w0 X L a] [h' : StR w0 X L b] : StR w0 X L (a ++ b) := ⟨fun w hw x hx => (List.mem_append.1 hx).elim (h.get w hw x) (h'.get w hw x)⟩
theorem stn_around {l : List StG} (h : StN l) : StN ([⟨1, [], ⟨none, 0⟩⟩, ⟨2, [], ⟨none, 0⟩⟩] ++ l ++ [⟨4, [], ⟨none, 0⟩⟩]) := fun g hg => by
  simp only [List.mem_append, List.mem_cons, List.not_mem_nil, or_false] at hg
  rcases hg with ((rfl | rfl) | hg) | rfl
  · exact ⟨by decide, by decide⟩
  · exact ⟨by decide, by decide⟩
  · exact h g hg
  · exact ⟨by decide, by decide⟩
theorem around_k {l : List StG} {s : List BsG} {ht : Int} {dg : List UInt8} (h : putSE (List.map stK ([⟨1, [], ⟨none, 0⟩⟩, ⟨2, [], ⟨none, 0⟩⟩] ++ l ++ [⟨4, [], ⟨none, 0⟩⟩])) = 0) (hs : soundB (opsK l) = true) (h3 : ∀ c ∈ s.map bsK, c.length ≤ 3000) (h60 : (s.length : Int) ≤ 60) :
    stepsX (List.map stK ([⟨1, [], ⟨none, 0⟩⟩, ⟨2, [], ⟨none, 0⟩⟩] ++ l ++ [⟨4, [], ⟨none, 0⟩⟩])) (s.map bsK) ht dg = (s.map bsK, 0) :=
  around (l := l.map stK) (by simp [stK]) h (by rw [← opsK_S]; exact hs) ⟨by rw [List.length_map]; omega, h3⟩ (by rw [List.length_map]; omega)
theorem law14_Sound (lA : Option Addr) (lc : Nat) (l : List StG) (sA : Option Addr) (sc : Nat) (s : List BsG) (ht : Int) (dg : List UInt8) [hdg : LenIs dg 32] (w0 : World) (hK : KOk w0) (hl : Slr w0 RSt (.slice lA l.length lc) l) (q_l : StP w0 l) (hs : Slr w0 RBs (.slice sA s.length sc) s) (q_s : BsP w0 s) (hp : (0 ≤ ht ∧ ht ≤ 4294967295) ∧ StN l ∧ (∀ g ∈ l, g.push.length ≤ 1099511627776) ∧ (∀ x ∈ s, x.2.length ≤ 1099511627776)) :
    Ct Tryd.prog 7 [.slice lA l.length lc, .slice sA s.length sc, Ag [.one (.int .u32 ht), .blk 32 (RB.all dg)]] w0 no (fun ((e0) : Bool) => .bool e0) (fun (e0) => []) (fun (e0) => e0 = true) := by
  have hst := St.start w0
  have j_hK := KR.old hK
  have i_l := Rw.old hl
  have j_l := StR.old q_l
  have i_s := Rw.old hs
  have j_s := BsR.old q_s
  refine genter _ hst Tryd.func7 rfl rfl rfl rfl ?_
  repeat' (first
   | (refine kO ?_; first | refine gbs RSt rfl rfl rfl rfl rfl rfl (fun _ => ?_) (fun _ => ?_) | refine gv rfl rfl ?_ | refine gnil ?_ | refine gl rfl (lvb rfl rfl) rfl (fun _ => ?_) | refine gl rfl (lvB rfl rfl rfl) rfl (fun _ => ?_) | refine gl rfl (lve rfl rfl) rfl (fun _ => ?_) | refine gl rfl (lvE rfl rfl rfl) rfl (fun _ => ?_) | refine gl rfl (lva rfl rfl rfl rfl rfl) rfl (fun _ => ?_) | refine gp rfl (by (try simp only [InR]); omega) rfl ?_ | refine gf rfl rfl rfl ?_ | refine gix rfl rfl rfl rfl (by omega) rfl (fun _ => ?_) | refine gixa rfl rfl rfl rfl (by omega) rfl (fun _ => ?_) | (refine kK ?_; first | refine gcall rfl ?_ rfl (fun _ _ => ?_) (fun _ _ => ?_) | refine gcv rfl rfl ?_ rfl (fun _ _ => ?_) (fun _ _ => ?_) | refine gcc1 rfl rfl ?_ rfl (fun _ _ => ?_) (fun _ _ => ?_)) | refine geql rfl rfl (by kernel_rfl) ?_ rfl ?_ | refine gneq rfl rfl (by kernel_rfl) ?_ rfl ?_ | refine gbu rfl rfl rfl rfl rfl ?_ | refine gx rfl rfl (fun _ => ?_) (fun _ => ?_) | refine gap rfl rfl rfl (by omega) rfl (fun _ => ?_) (fun _ => ?_) | refine gan rfl rfl rfl (by omega) rfl (fun _ => ?_) (fun _ => ?_) | refine gapz rfl rfl rfl rfl (by omega) rfl (fun _ => ?_) (fun _ => ?_) | refine ganz rfl rfl rfl rfl (by omega) rfl (fun _ => ?_) (fun _ => ?_) | refine gbs RB rfl rfl rfl rfl rfl rfl (fun _ => ?_) (fun _ => ?_) | refine gbb rfl rfl rfl (by first | (simp; done) | (simp only [and_true]; omega)) rfl rfl rfl rfl (fun _ => ?_) (fun _ => ?_) | refine gw rfl rfl ?_ | (refine kg ?_; (first | refine guardT rfl rfl rfl rfl (fun h => ?_) (fun h => ?_) | refine guardF rfl rfl rfl rfl (fun h => ?_) (fun h => ?_) | refine guardU rfl rfl rfl rfl ?_ | refine guardTH rfl rfl rfl rfl ?_ (fun h => ?_) (fun h => ?_) | refine guardFH rfl rfl rfl rfl ?_ (fun h => ?_) (fun h => ?_) | refine guardUH rfl rfl rfl rfl ?_ ?_) <;> (first | exact h.elim | (exfalso; omega) | exact absurd h (by assumption) | exact absurd (by assumption) h | skip)))
   | (refine kC ?_; first | refine gseq ?_ | refine greg ?_ | refine gret ?_ | refine gskip ?_ | (refine gcond rfl (fun h => ?_) (fun h => ?_) <;> (first | exact h.elim | (exfalso; omega) | exact absurd h (by assumption) | exact absurd (by assumption) h | skip)) | refine gblk ?_ | refine gexit ?_)
   | (refine kN ?_; first | refine gthen ?_ | refine gnblk ?_)
   | (refine kR ?_; first | refine grs ?_ | refine grb ?_ | refine grl ?_ | refine grc ?_)
   | (refine kX ?_; first | refine gxs ?_ | refine gxb ?_ | refine gxn rfl ?_ | refine gxl ?_ | refine gxc ?_)
   | (refine kR ?_; refine gr rfl (rvT rfl rv0) (_) rfl Ent.nil ?_)
   | exact Pre.mk ⟨hp.2.2.1, hp.2.2.2⟩
   | exact Pre.mk ⟨hp.2.1, by omega⟩
   | exact Pre.mk ⟨hp.2.1, hp.1, bs_big (by omega) hp.2.2.2⟩
   | exact Pre.mk ⟨stn_around hp.2.1, hp.1, bs_big (by omega) hp.2.2.2⟩
   | exact Pre.mk (stn_around hp.2.1)
   | (refine Pre.mk ?_; first | exact True.intro | omega | ((repeat' (first | refine And.intro ?_ ?_ | exact True.intro | assumption | omega)); done) | (simp only [and_true, true_and, or_true, true_or]; first | done | omega))
   | (refine kD ?_; first | exact dm_none))
  · rfl
  · have := sound_of (by assumption : (stepsX (l.map stK) (s.map bsK) ht dg).2 = 0)
    rw [← opsK_S, h] at this; cases this
  · rename_i _ _ _ _ _ _ a ha _ _
    refine gloop3 [0, 1, 10, 11, 13] (fun (i : Nat) (dd : Int) (o : Bool) K => (14, .bool o) :: (15, .int .i64 dd) :: (16, .int .i64 i) :: K) (fun i dd o => [rw_ 22 RBs a.s a.gs.length a.gs, lot (a.gs.map bsRow)]) (fun i dd o => i ≤ l.length ∧ -(i : Int) ≤ dd ∧ dd ≤ i) (fun i dd o => l.length - i) 0 0 false rfl (by repeat (first | exact trivial | refine ⟨rfl, ?_⟩)) (er (elot Ent.nil)) (by omega) (fun i dd o hi => ?_)
    obtain ⟨i1, i2, i3⟩ := hi
    have hto := fun h => StN.at hp.2.1 (i := (i : Int)) ⟨by omega, h⟩
    repeat' (first
     | (refine kO ?_; first | refine gv rfl rfl ?_ | refine gnil ?_ | refine gl rfl (lvb rfl rfl) rfl (fun _ => ?_) | refine gl rfl (lvB rfl rfl rfl) rfl (fun _ => ?_) | refine gl rfl (lve rfl rfl) rfl (fun _ => ?_) | refine gl rfl (lvE rfl rfl rfl) rfl (fun _ => ?_) | refine gl rfl (lva rfl rfl rfl rfl rfl) rfl (fun _ => ?_) | refine gp rfl (by (try simp only [InR]); omega) rfl ?_ | refine gf rfl rfl rfl ?_ | refine gix rfl rfl rfl rfl (by omega) rfl (fun _ => ?_) | refine gixa rfl rfl rfl rfl (by omega) rfl (fun _ => ?_) | (refine kK ?_; first | refine gcall rfl ?_ rfl (fun _ _ => ?_) (fun _ _ => ?_) | refine gcv rfl rfl ?_ rfl (fun _ _ => ?_) (fun _ _ => ?_) | refine gcc1 rfl rfl ?_ rfl (fun _ _ => ?_) (fun _ _ => ?_)) | refine geql rfl rfl (by kernel_rfl) ?_ rfl ?_ | refine gneq rfl rfl (by kernel_rfl) ?_ rfl ?_ | refine gbu rfl rfl rfl rfl rfl ?_ | refine gx rfl rfl (fun _ => ?_) (fun _ => ?_) | refine gap rfl rfl rfl (by omega) rfl (fun _ => ?_) (fun _ => ?_) | refine gan rfl rfl rfl (by omega) rfl (fun _ => ?_) (fun _ => ?_) | refine gapz rfl rfl rfl rfl (by omega) rfl (fun _ => ?_) (fun _ => ?_) | refine ganz rfl rfl rfl rfl (by omega) rfl (fun _ => ?_) (fun _ => ?_) | refine gbs RB rfl rfl rfl rfl rfl rfl (fun _ => ?_) (fun _ => ?_) | refine gbb rfl rfl rfl (by first | (simp; done) | (simp only [and_true]; omega)) rfl rfl rfl rfl (fun _ => ?_) (fun _ => ?_) | refine gw rfl rfl ?_ | (refine kg ?_; (first | refine guardT rfl rfl rfl rfl (fun h => ?_) (fun h => ?_) | refine guardF rfl rfl rfl rfl (fun h => ?_) (fun h => ?_) | refine guardU rfl rfl rfl rfl ?_ | refine guardTH rfl rfl rfl rfl ?_ (fun h => ?_) (fun h => ?_) | refine guardFH rfl rfl rfl rfl ?_ (fun h => ?_) (fun h => ?_) | refine guardUH rfl rfl rfl rfl ?_ ?_) <;> (first | exact h.elim | (exfalso; omega) | exact absurd h (by assumption) | exact absurd (by assumption) h | skip)))
     | (refine kC ?_; first | refine gseq ?_ | refine greg ?_ | refine gret ?_ | refine gskip ?_ | (refine gcond rfl (fun h => ?_) (fun h => ?_) <;> (first | exact h.elim | (exfalso; omega) | exact absurd h (by assumption) | exact absurd (by assumption) h | skip)) | refine gblk ?_ | refine gexit ?_)
     | (refine kN ?_; first | refine gthen ?_ | refine gnblk ?_)
     | (refine kR ?_; first | refine grs ?_ | refine grb ?_ | refine grl ?_ | refine grc ?_)
     | (refine kX ?_; first | refine gxs ?_ | refine gxb ?_ | refine gxn rfl ?_ | refine gxl ?_ | refine gxc ?_)
     | (refine kR ?_; refine gr rfl (rvT rfl rv0) (_) rfl Ent.nil ?_)
     | exact Pre.mk ⟨hp.2.1, by omega⟩
     | (refine Pre.mk ?_; first | exact True.intro | omega | ((repeat' (first | refine And.intro ?_ ?_ | exact True.intro | assumption | omega)); done) | (simp only [and_true, true_and, or_true, true_or]; first | done | omega))
     | (refine kD ?_; first | exact dm_none))
    all_goals first
      | rfl
      | (refine gnl3 (i + 1) _ _ (by repeat (first | exact trivial | refine ⟨rfl, ?_⟩)) (er (elot Ent.nil)) ?_ (by omega); omega)
      | skip
    all_goals
      exfalso
      have K := around_k (s := s) (ht := ht) (dg := dg) (l := l) (by assumption) (by assumption) (by assumption) (by omega)
      first
        | (rename (¬ List.map bsK a.gs = _) => h9; exact h9 (ha.2.1.trans (congrArg Prod.fst K)))
        | (rename (¬ (stepsX (List.map stK (_ ++ l ++ _)) _ _ _).2 = 0) => h9; exact h9 (congrArg Prod.snd K))
  · rename_i _ _ _ _ _ _ a ha _ _
    refine gloop3 [0, 1, 10, 11, 13] (fun (i : Nat) (dd : Int) (o : Bool) K => (14, .bool o) :: (15, .int .i64 dd) :: (16, .int .i64 i) :: K) (fun i dd o => [rw_ 22 RBs a.s a.gs.length a.gs, lot (a.gs.map bsRow)]) (fun i dd o => i ≤ l.length ∧ -(i : Int) ≤ dd ∧ dd ≤ i) (fun i dd o => l.length - i) 0 0 false rfl (by repeat (first | exact trivial | refine ⟨rfl, ?_⟩)) (er (elot Ent.nil)) (by omega) (fun i dd o hi => ?_)
    obtain ⟨i1, i2, i3⟩ := hi
    have hto := fun h => StN.at hp.2.1 (i := (i : Int)) ⟨by omega, h⟩
    repeat' (first
     | (refine kO ?_; first | refine gv rfl rfl ?_ | refine gnil ?_ | refine gl rfl (lvb rfl rfl) rfl (fun _ => ?_) | refine gl rfl (lvB rfl rfl rfl) rfl (fun _ => ?_) | refine gl rfl (lve rfl rfl) rfl (fun _ => ?_) | refine gl rfl (lvE rfl rfl rfl) rfl (fun _ => ?_) | refine gl rfl (lva rfl rfl rfl rfl rfl) rfl (fun _ => ?_) | refine gp rfl (by (try simp only [InR]); omega) rfl ?_ | refine gf rfl rfl rfl ?_ | refine gix rfl rfl rfl rfl (by omega) rfl (fun _ => ?_) | refine gixa rfl rfl rfl rfl (by omega) rfl (fun _ => ?_) | (refine kK ?_; first | refine gcall rfl ?_ rfl (fun _ _ => ?_) (fun _ _ => ?_) | refine gcv rfl rfl ?_ rfl (fun _ _ => ?_) (fun _ _ => ?_) | refine gcc1 rfl rfl ?_ rfl (fun _ _ => ?_) (fun _ _ => ?_)) | refine geql rfl rfl (by kernel_rfl) ?_ rfl ?_ | refine gneq rfl rfl (by kernel_rfl) ?_ rfl ?_ | refine gbu rfl rfl rfl rfl rfl ?_ | refine gx rfl rfl (fun _ => ?_) (fun _ => ?_) | refine gap rfl rfl rfl (by omega) rfl (fun _ => ?_) (fun _ => ?_) | refine gan rfl rfl rfl (by omega) rfl (fun _ => ?_) (fun _ => ?_) | refine gapz rfl rfl rfl rfl (by omega) rfl (fun _ => ?_) (fun _ => ?_) | refine ganz rfl rfl rfl rfl (by omega) rfl (fun _ => ?_) (fun _ => ?_) | refine gbs RB rfl rfl rfl rfl rfl rfl (fun _ => ?_) (fun _ => ?_) | refine gbb rfl rfl rfl (by first | (simp; done) | (simp only [and_true]; omega)) rfl rfl rfl rfl (fun _ => ?_) (fun _ => ?_) | refine gw rfl rfl ?_ | (refine kg ?_; (first | refine guardT rfl rfl rfl rfl (fun h => ?_) (fun h => ?_) | refine guardF rfl rfl rfl rfl (fun h => ?_) (fun h => ?_) | refine guardU rfl rfl rfl rfl ?_ | refine guardTH rfl rfl rfl rfl ?_ (fun h => ?_) (fun h => ?_) | refine guardFH rfl rfl rfl rfl ?_ (fun h => ?_) (fun h => ?_) | refine guardUH rfl rfl rfl rfl ?_ ?_) <;> (first | exact h.elim | (exfalso; omega) | exact absurd h (by assumption) | exact absurd (by assumption) h | skip)))
     | (refine kC ?_; first | refine gseq ?_ | refine greg ?_ | refine gret ?_ | refine gskip ?_ | (refine gcond rfl (fun h => ?_) (fun h => ?_) <;> (first | exact h.elim | (exfalso; omega) | exact absurd h (by assumption) | exact absurd (by assumption) h | skip)) | refine gblk ?_ | refine gexit ?_)
     | (refine kN ?_; first | refine gthen ?_ | refine gnblk ?_)
     | (refine kR ?_; first | refine grs ?_ | refine grb ?_ | refine grl ?_ | refine grc ?_)
     | (refine kX ?_; first | refine gxs ?_ | refine gxb ?_ | refine gxn rfl ?_ | refine gxl ?_ | refine gxc ?_)
     | (refine kR ?_; refine gr rfl (rvT rfl rv0) (_) rfl Ent.nil ?_)
     | exact Pre.mk ⟨hp.2.1, by omega⟩
     | (refine Pre.mk ?_; first | exact True.intro | omega | ((repeat' (first | refine And.intro ?_ ?_ | exact True.intro | assumption | omega)); done) | (simp only [and_true, true_and, or_true, true_or]; first | done | omega))
     | (refine kD ?_; first | exact dm_none))
    all_goals first
      | rfl
      | (refine gnl3 (i + 1) _ _ (by repeat (first | exact trivial | refine ⟨rfl, ?_⟩)) (er (elot Ent.nil)) ?_ (by omega); omega)
      | skip
    all_goals
      exfalso
      have K := around_k (s := s) (ht := ht) (dg := dg) (l := l) (by assumption) (by assumption) (by assumption) (by omega)
      first
        | (rename (¬ List.map bsK a.gs = _) => h9; exact h9 (ha.2.1.trans (congrArg Prod.fst K)))
        | (rename (¬ (stepsX (List.map stK (_ ++ l ++ _)) _ _ _).2 = 0) => h9; exact h9 (congrArg Prod.snd K))
  · rfl
  · rfl
instance c_law14_Sound {lA : Option Addr} {lc ln : Nat} {l : List StG} {sA : Option Addr} {sc sn : Nat} {s : List BsG} {ht : Int} {dg : List UInt8} {w0 : World} {X : Nat → Prop} {L : List Assn} [hK : KR w0 X L] [hl : Rw w0 X L (.slice lA ln lc) RSt l] [q_l : StR w0 X L l] [hs : Rw w0 X L (.slice sA sn sc) RBs s] [q_s : BsR w0 X L s] [hdg : LenIs dg 32] : Ctr Tryd.prog 7 [.slice lA ln lc, .slice sA sn sc, Ag [.one (.int .u32 ht), .blk 32 (RB.all dg)]] w0 X L ((0 ≤ ht ∧ ht ≤ 4294967295) ∧ StN l ∧ (∀ g ∈ l, g.push.length ≤ 1099511627776) ∧ (∀ x ∈ s, x.2.length ≤ 1099511627776)) (fun _ : Unit => .bool (true)) (fun _ : Unit => L) (fun _ : Unit => True) :=
  ctr' (M' := (fun _ : Unit => [])) (by kernel_rfl) (fun hp w hw => by have el := hl.len hw; subst el; have es := hs.len hw; subst es; exact law14_Sound _ _ _ _ _ _ _ _ w (hK.get w hw) (hl.get w hw) (q_l.get w hw) (hs.get w hw) (q_s.get w hw) hp) (by rintro hp e0 rfl ok; exact ⟨(), rfl, rfl, trivial⟩)
end Go.Proofs.YtkjpemkankefnaaDoor

/-!
  moneyerlaw14: ExecHeight; what is put is read.
-/
namespace Go.Proofs.YtkjpemkankefnaaDoor
open Go.RowKit

theorem one_put {x : Stp} {r : List UInt8} (h : mayS x.1 x.2) : (oneS (stepB x ++ r)).e = 0 ∧ (oneS (stepB x ++ r)).op = x.1 ∧ (oneS (stepB x ++ r)).push = x.2 ∧ (oneS (stepB x ++ r)).n = (stepB x).length ∧ stepB x ++ r ≠ [] := by
  obtain ⟨o, p⟩ := x
  unfold mayS at h
  simp only at h
  by_cases h1 : o = 1
  · rw [if_pos h1] at h
    subst h1
    by_cases h2 : p.length < 128
    · have e : stepB (1, p) = u8 p.length :: p := by unfold stepB; rw [if_neg (by simp), if_pos h2]
      rw [e]
      have e0 : (ixd (u8 p.length :: p ++ r) 0).toNat = p.length := by
        show (u8 (p.length : Int)).toNat = _
        have := u8_toNat (p.length : Int); omega
      rw [on_1 (by omega), e0, op_ok (by simp; omega)]
      refine ⟨rfl, rfl, ?_, by simp; omega, by simp⟩
      show ((u8 p.length :: p ++ r).drop 1).take p.length = p
      simp
    · have e : stepB (1, p) = 128 :: u8 p.length :: u8 ((p.length : Int) / 256) :: p := by unfold stepB; rw [if_neg (by simp), if_neg h2]
      rw [e]
      have e0 : (ixd (128 :: u8 p.length :: u8 ((p.length : Int) / 256) :: p ++ r) 0).toNat = 128 := rfl
      have e1 : (ixd (128 :: u8 p.length :: u8 ((p.length : Int) / 256) :: p ++ r) 1).toNat = (u8 (p.length : Int)).toNat := rfl
      have e2 : (ixd (128 :: u8 p.length :: u8 ((p.length : Int) / 256) :: p ++ r) 2).toNat = (u8 ((p.length : Int) / 256)).toNat := rfl
      have t1 := u8_toNat (p.length : Int)
      have t2 := u8_toNat ((p.length : Int) / 256)
      have el : lenH (128 :: u8 p.length :: u8 ((p.length : Int) / 256) :: p ++ r) = p.length := by
        unfold lenH; rw [e1, e2]; omega
      rw [on_p e0 (by simp) (by rw [el]; omega), el, op_ok (by simp; omega)]
      refine ⟨rfl, rfl, ?_, by simp; omega, by simp⟩
      show ((128 :: u8 p.length :: u8 ((p.length : Int) / 256) :: p ++ r).drop 3).take p.length = p
      simp
  · rw [if_neg h1] at h
    have hp : p = [] := List.eq_nil_of_length_eq_zero h.2.2
    subst hp
    have e : stepB (o, []) = [u8 (127 + o)] := by unfold stepB; rw [if_pos h1]
    rw [e]
    have e0 : (ixd ([u8 (127 + o)] ++ r) 0).toNat = (u8 (127 + o)).toNat := rfl
    have t1 := u8_toNat (127 + o)
    rw [on_op (by rw [e0]; omega) (by rw [e0]; omega)]
    refine ⟨rfl, ?_, rfl, rfl, by simp⟩
    show ((ixd ([u8 (127 + o)] ++ r) 0).toNat : Int) - 127 = o
    rw [e0]; omega
/-- what is put is read -/
theorem read_put : ∀ {l acc : List Stp}, MayL l → acc.length + l.length ≤ 200 → readAll (l.flatMap stepB) acc = ⟨acc ++ l, 0⟩
  | [], acc, h, hl => by rw [List.flatMap_nil, readAll_nil, List.append_nil]
  | x :: l, acc, h, hl => by
    rw [List.length_cons] at hl
    have hx := one_put (r := l.flatMap stepB) (h x (by simp))
    rw [List.flatMap_cons, readAll_step hx.2.2.2.2 (by omega) hx.1, hx.2.2.2.1, List.drop_left' rfl, hx.2.1, hx.2.2.1, read_put (fun y hy => h y (by simp [hy])) (by simp; omega)]
    simp
theorem num_cell {a : Int} (h : -9223372036854775808 ≤ a ∧ a ≤ 9223372036854775807) : numE (cellB a) = 0 ∧ numN (cellB a) = a := by
  have e := sgn_cellB h.1 h.2
  have hy := num_yes (b := cellB a) ⟨cellB_len a, by rw [e]⟩
  exact ⟨hy.2.symm, by rw [← hy.1, e]⟩
theorem height_law {h a : Int} {dg : List UInt8} (ha : 0 ≤ a ∧ a ≤ 4294967295) : putSE [(1, cellB a), (20, []), (1, [1])] = 0 ∧ runE [] (putSL [(1, cellB a), (20, []), (1, [1])]) h dg = if a ≤ h then 0 else 8 := by
  have hc := cellB_len a
  have hm : MayL [(1, cellB a), (20, []), (1, [1])] := fun x hx => by
    simp only [List.mem_cons, List.not_mem_nil, or_false] at hx
    rcases hx with rfl | rfl | rfl
    · unfold mayS; rw [if_pos rfl]; simp only; omega
    · unfold mayS; rw [if_neg (by decide)]; exact ⟨by decide, by decide, rfl⟩
    · unfold mayS; rw [if_pos rfl]; decide
  have hP : putSE [(1, cellB a), (20, []), (1, [1])] = 0 := (putSE_ok hm (by simp)).2.symm
  have hL := (putSE_ok hm (by simp)).1
  refine ⟨hP, ?_⟩
  have hr := read_put (acc := []) hm (by simp)
  rw [hL, List.nil_append] at hr
  have r1 : readL (putSL [(1, cellB a), (20, []), (1, [1])]) = [(1, cellB a), (20, []), (1, [1])] := by unfold readL; rw [hr]
  have r2 : readE (putSL [(1, cellB a), (20, []), (1, [1])]) = 0 := by unfold readE; rw [hr]
  have r3 : readL [] = [] := by unfold readL; rw [readAll_nil]
  have r4 : readE [] = 0 := by unfold readE; rw [readAll_nil]
  rw [runE_y r4 r2 (by rw [r3]; rfl), r3, r1]
  have s0 : stepsX [] [] h dg = ([], 0) := by
    rw [stepsX, if_pos (show putSE [] = 0 by decide)]; rfl
  rw [s0, if_pos rfl]
  have hpe : ∀ c : List UInt8, c.length ≤ 8 → pushE [] c = 0 ∧ pushC [] c = [c] := fun c hc => by
    unfold pushE pushC; rw [if_neg (by simp; omega), if_neg (by simp; omega)]; exact ⟨rfl, rfl⟩
  have e1 : oneM ⟨[], [], 0⟩ (1, cellB a) h dg = ⟨[cellB a], [], 0⟩ := by
    show pushM ⟨[], [], 0⟩ [cellB a] = _
    rw [pushM, if_pos (hpe _ hc).1, (hpe _ hc).2]; rfl
  have n1 := num_cell (a := a) (by omega)
  have e2 : oneM ⟨[cellB a], [], 0⟩ (20, []) h dg = if a ≤ h then ⟨[], [], 0⟩ else ⟨[], [], 8⟩ := by
    have hp1 : popE [cellB a] 1 = 0 := by unfold popE; rw [if_neg (by decide), if_neg (by simp)]
    show failM (numM (popM ⟨[cellB a], [], 0⟩ 1) ((popL ⟨[cellB a], [], 0⟩ 1).getD 0 [])) (decide (numN ((popL ⟨[cellB a], [], 0⟩ 1).getD 0 []) ≤ h)) = _
    rw [popM_yes hp1, popL_yes hp1]
    have hx1 : (popX [cellB a] 1).getD 0 [] = cellB a := by unfold popX; rw [if_neg (by simp)]; rfl
    have hc1 : popC [cellB a] 1 = [] := by unfold popC; rw [if_neg (by simp)]; rfl
    rw [hx1, hc1, n1.2]
    unfold numM; rw [if_pos n1.1]
    unfold failM
    by_cases hah : a ≤ h
    · rw [if_pos (by simpa using hah), if_pos hah]
    · rw [if_neg (by simpa using hah), if_neg hah]
  have e3 : oneM ⟨[], [], 0⟩ (1, [1]) h dg = ⟨[[1]], [], 0⟩ := by
    show pushM ⟨[], [], 0⟩ [[1]] = _
    rw [pushM, if_pos (hpe [1] (by simp)).1, (hpe [1] (by simp)).2]; rfl
  rw [stepsX, if_pos hP]
  rw [show pushM ⟨[], [], 0⟩ ([] : List (List UInt8)) = ⟨[], [], 0⟩ from rfl, stepsG_c rfl, e1, stepsG_c rfl, e2]
  by_cases hah : a ≤ h
  · rw [if_pos hah, if_pos hah, stepsG_c rfl, e3]; rfl
  · rw [if_neg hah, if_neg hah, stepsG_e (show ¬ (8 : Int) = 0 by decide)]; rfl
theorem law14_Height (ht : Int) (att : Int) (w0 : World) (hK : KOk w0) (hp : (0 ≤ ht ∧ ht ≤ 4294967295) ∧ 0 ≤ att ∧ att ≤ 4294967295) :
    Ct Tryd.prog 8 [.int .u32 ht, .int .u32 att] w0 no (fun ((e0) : Bool) => .bool e0) (fun (e0) => []) (fun (e0) => e0 = true) := by
  have hst := St.start w0
  have j_hK := KR.old hK
  refine genter _ hst Tryd.func8 rfl rfl rfl rfl ?_
  have hc := cellB_len att
  have K : ∀ a b : Sv, putSE (List.map stK [⟨1, cellB att, a⟩, ⟨20, [], ⟨none, 0⟩⟩, ⟨1, [u8 1], b⟩]) = 0 ∧ runE [] (putSL (List.map stK [⟨1, cellB att, a⟩, ⟨20, [], ⟨none, 0⟩⟩, ⟨1, [u8 1], b⟩])) ht (List.replicate 32 0) = if att ≤ ht then 0 else 8 := fun a b => height_law hp.2
  have K2 := fun l => putSL_len l
  repeat' (first
   | (refine kO ?_; first | refine gbs RSt rfl rfl rfl rfl rfl rfl (fun _ => ?_) (fun _ => ?_) | refine gv rfl rfl ?_ | refine gnil ?_ | refine gp rfl (by (try simp only [InR]); omega) rfl ?_ | (refine kK ?_; first | refine gcall rfl ?_ rfl (fun _ _ => ?_) (fun _ _ => ?_) | refine gcv rfl rfl ?_ rfl (fun _ _ => ?_) (fun _ _ => ?_) | refine gcc1 rfl rfl ?_ rfl (fun _ _ => ?_) (fun _ _ => ?_)) | refine geql rfl rfl (by kernel_rfl) ?_ rfl ?_ | refine gbu rfl rfl rfl rfl rfl ?_ | refine gbs RB rfl rfl rfl rfl rfl rfl (fun _ => ?_) (fun _ => ?_) | refine gbb rfl rfl rfl (by first | (simp; done) | (simp only [and_true]; omega)) rfl rfl rfl rfl (fun _ => ?_) (fun _ => ?_) | refine gb rfl rfl rfl rfl ?_ | refine gw rfl rfl ?_ | (refine kg ?_; (first | refine guardT rfl rfl rfl rfl (fun h => ?_) (fun h => ?_) | refine guardF rfl rfl rfl rfl (fun h => ?_) (fun h => ?_) | refine guardU rfl rfl rfl rfl ?_ | refine guardTH rfl rfl rfl rfl ?_ (fun h => ?_) (fun h => ?_) | refine guardFH rfl rfl rfl rfl ?_ (fun h => ?_) (fun h => ?_) | refine guardUH rfl rfl rfl rfl ?_ ?_) <;> (first | exact h.elim | (exfalso; omega) | exact absurd h (by assumption) | exact absurd (by assumption) h | skip)))
   | (refine kC ?_; first | refine gseq ?_ | refine greg ?_ | refine gret ?_ | refine gskip ?_ | (refine gcond rfl (fun h => ?_) (fun h => ?_) <;> (first | exact h.elim | (exfalso; omega) | exact absurd h (by assumption) | exact absurd (by assumption) h | skip)))
   | (refine kN ?_; first | refine gthen ?_)
   | (refine kR ?_; first | refine grs ?_ | refine grc ?_)
   | (refine kR ?_; refine gr rfl (rvT rfl rv0) (_) rfl Ent.nil ?_)
   | exact Pre.mk ⟨hp.1, by simp, Nat.le_trans (K2 _) (by omega)⟩
   | exact Pre.mk ⟨by omega, by omega⟩
   | exact Pre.mk (by simp [StN])
   | (refine Pre.mk ?_; first | exact True.intro | omega | ((repeat' (first | refine And.intro ?_ ?_ | exact True.intro | assumption | omega)); done) | (simp only [and_true, true_and, or_true, true_or]; first | done | omega))
   | (refine kD ?_; first | exact dm_none))
  all_goals first
    | rfl
    | (exfalso
       rename_i h1
       first
         | exact h1 (K _ _).1
         | exact h1 (((K _ _).2).trans (if_pos (by assumption)))
         | exact h1 (((K _ _).2).trans (if_neg (by assumption))))
    | (exfalso; exact h (((K _ _).2).trans (if_pos (by assumption))))
    | (exfalso; exact h (((K _ _).2).trans (if_neg (by assumption))))
    | (exfalso; rename (¬ putSE _ = 0) => h9; exact h9 (K _ _).1)
instance c_law14_Height {ht : Int} {att : Int} {w0 : World} {X : Nat → Prop} {L : List Assn} [hK : KR w0 X L] : Ctr Tryd.prog 8 [.int .u32 ht, .int .u32 att] w0 X L ((0 ≤ ht ∧ ht ≤ 4294967295) ∧ 0 ≤ att ∧ att ≤ 4294967295) (fun _ : Unit => .bool (true)) (fun _ : Unit => L) (fun _ : Unit => True) :=
  ctr' (M' := (fun _ : Unit => [])) (by kernel_rfl) (fun hp w hw => by exact law14_Height _ _ w (hK.get w hw) hp) (by rintro hp e0 rfl ok; exact ⟨(), rfl, rfl, trivial⟩)
end Go.Proofs.YtkjpemkankefnaaDoor
