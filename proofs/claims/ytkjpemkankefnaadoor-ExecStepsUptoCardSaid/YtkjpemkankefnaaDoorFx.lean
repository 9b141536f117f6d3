/-
  ExecRuns, ExecOpens, ExecSteps: where what it reads is of bulk at most 1048576, the law answers true, and each argument reads behind the call as it read before.
-/
import Derived.Test.YtkjpemkankefnaaDoorVop
import Derived.Test.YtkjpemkankefnaaDoorFb
set_option linter.all false
set_option maxRecDepth 100000
set_option maxHeartbeats 4000000
namespace Go.Proofs.YtkjpemkankefnaaDoor
open Go.RowKit Go.ChangeShapes Go.WideShapes Go.ChangeAt
namespace lawExecRuns
theorem own : ownKnob Tryd.prog.godebug = none := by kernel_rfl
theorem laid : laidOutB Tryd.prog = true := by kernel_rfl
theorem rowed : mapsRowed Tryd.prog = true := by kernel_rfl
theorem voids : noVoid Tryd.prog = true := by kernel_rfl
theorem contract (H : Type) (enc : TypeId × Value → H) (W : World) (base : Nat) (args : Array Value) (ds gs : List (DataW H)) (before : List MemPlace)
    (hval : ∀ (j : Nat) t v, Tryd.f3.params[j]? = some t → args[j]? = some v → Value.okWide Tryd.prog W .any base t v)
    (hW : DataW.Whole enc Tryd.prog Tryd.f3.params.toList Rows.execRunsSpec.vars false W args.toList ds gs before) (hsmall : Rows.uptoBulkAll (ds ++ gs) ≤ 1048576) (hlaid : laidMetH Tryd.prog Rows.execRunsUptoRow.laid W) :
    Calls Tryd.prog 3 args W fun e W' => ∃ v, e = .returned v ∧ Rows.execRunsSpec.post enc Tryd.prog Tryd.f3 false true false false W args v W' := by
  have hW0 := hW
  obtain ⟨p, q, hA0, hV, rfl, hfz, hnd⟩ := hW
  have hA : DataW.TrodAll enc Tryd.prog W 0 (fun _ => true) true Tryd.f3.params.toList args.toList ds p := hA0
  rw [Tryd.params3] at hA hval
  obtain ⟨v0, vs0, d0, ds0, p0, q0, hargs, rfl, rfl, h0, r0⟩ := trodAll_cons hA
  obtain ⟨v1, vs1, d1, ds1, p1, q1, rfl, rfl, rfl, h1, r1⟩ := trodAll_cons r0
  obtain ⟨v2, vs2, d2, ds2, p2, q2, rfl, rfl, rfl, h2, r2⟩ := trodAll_cons r1
  obtain ⟨rfl, rfl, rfl⟩ := trodAll_nil r2
  obtain rfl : args = #[v0, v1, v2] := by cases args; simp_all
  obtain ⟨rfl, rfl⟩ := trodVars_none hV
  obtain ⟨uA, uc, u, rfl, hu, bu⟩ := open_bytes Tryd.underlying22 Tryd.underlying5 (by kernel_rfl) (hval 0 22 v0 rfl rfl) h0
  obtain ⟨kA, kc, k, rfl, hk, bk⟩ := open_bytes Tryd.underlying22 Tryd.underlying5 (by kernel_rfl) (hval 1 22 v1 rfl rfl) h1
  obtain ⟨v, rfl, hv, bv⟩ := (op_env (enc := enc) (w := W)).agg Tryd.underlying27 (hval 2 27 v2 rfl rfl) h2
  simp only [List.append_nil, Rows.uptoBulkAll] at hsmall
  refine (law14_Runs uA uc u kA kc k v.1 v.2.l W (kok (List.mem_cons_self ..) (by kernel_rfl) hlaid) hu hk hv).mono fun e W' ⟨rr, he, hst, hr⟩ => ?_
  subst he
  first | exact ⟨_, rfl, post_true hst laid rowed voids (by decide) rfl Tryd.underlying4 rfl hW0 rfl⟩ | (have hr' : rr = true := hr; subst hr'; exact ⟨_, rfl, post_true hst laid rowed voids (by decide) rfl Tryd.underlying4 rfl hW0 rfl⟩)
theorem laid_met (os : Os) (args : Array Value) : laidMet Tryd.prog Rows.execRunsUptoRow.laid ((World.doorLaid Tryd.prog 14 os).forCall (fun _ _ => 0) ⟨#[], args, []⟩).memory :=
  laidMet_of_run' 8 (by kernel_rfl) (by kernel_rfl)
theorem reads (os : Os) {H : Type} (enc : TypeId × Value → H) : ∃ places, DataW.whole enc Tryd.prog ((World.doorLaid Tryd.prog 14 os).forCall (fun _ _ => 0) ⟨#[], #[.slice none 0 0, .slice none 0 0, .agg (Value.int .u32 0 :: List.replicate 32 (Value.int .u8 0)).toArray], []⟩).memory Tryd.f3.params.toList Rows.execRunsSpec.vars false (#[.slice none 0 0, .slice none 0 0, .agg (Value.int .u32 0 :: List.replicate 32 (Value.int .u8 0)).toArray] : Array Value).toList 8 = some ([.nil, .nil, .agg [.lit (.int .u32 0), .agg (List.replicate 32 (.lit (.int .u8 0)))]], [], places) :=
  ⟨[], by kernel_rfl⟩
theorem lifted (os : Os) (started : os.Started) (H : Type) (enc : TypeId × Value → H) (F : Stop.Interp) :
    ReturnsInHanded {} Tryd.checked os 3 .any ((Rows.OpenSpec.upto Rows.execRunsSpec).preRow enc Tryd.prog Tryd.f3 Rows.execRunsUptoRow.domain false Rows.execRunsUptoRow.laid) (((Rows.OpenSpec.upto Rows.execRunsSpec).at F).post enc Tryd.prog Tryd.f3 false true false false) := by
  obtain ⟨places, hx⟩ := reads os enc
  refine returnsInHanded_of_row (C := Tryd.checked) (s := Rows.OpenSpec.upto Rows.execRunsSpec) own started (by kernel_rfl) Tryd.func3
    (witness_row_at (enc := enc) (C := Tryd.checked) false (World.doorLaid Tryd.prog 14 os) #[.slice none 0 0, .slice none 0 0, .agg (Value.int .u32 0 :: List.replicate 32 (Value.int .u8 0)).toArray] rfl (by kernel_rfl) (by kernel_rfl) (by kernel_rfl)
      (OpenSpec.preRow_of_cond 8 hx (by kernel_rfl) (fun k hk => by cases hk; kernel_rfl) (by kernel_rfl) (laid_met os _))) ?_
  intro W base args ds gs before hval hW _ hcond _ hlaid _ _
  exact contract H enc W base args ds gs before hval hW (of_decide_eq_true (hcond _ rfl)) hlaid
theorem said : Rows.ExecRunsUptoSaid :=
  OpenClaim.holds_of_cond 3 Tryd.f3 rfl rfl rfl rfl rfl rfl rfl ⟨rfl, rfl, rfl, rfl, rfl⟩ rfl rfl rfl rfl rfl (by kernel_rfl) Tryd.func3 (by kernel_rfl)
    (of_decide_eq_true (by kernel_rfl)) (by unfold Func.isWrapper; first | (rw [if_pos (by decide +kernel)]; kernel_rfl) | (rw [if_neg (by decide +kernel)]; exact ⟨rfl, rfl⟩))
    (fun os started H enc _ F => by rw [OpenClaim.pre_eq_preRow]; exact lifted os started H enc F)
theorem plain (f : FuncId) (fn : Func) (hf : Tryd.pinned.checked.prog.funcNamed "moneyer/moneyerlaw14.ExecRuns" = some f) (hfn : Tryd.pinned.checked.prog.funcs[f]? = some fn) :
    false = Tryd.pinned.checked.prog.looks [] ∧ ∀ (j : Nat) t, fn.params[j]? = some t → Tryd.pinned.checked.prog.wantsStandIn t = false := by
  obtain rfl : f = 3 := Option.some.inj ((show Tryd.prog.funcNamed "moneyer/moneyerlaw14.ExecRuns" = some 3 by kernel_rfl).symm.trans hf) |>.symm
  obtain rfl : fn = Tryd.f3 := (Option.some.inj (Tryd.func3.symm.trans hfn)).symm
  refine ⟨by kernel_rfl, fun j t ht => ?_⟩
  rw [Tryd.params3] at ht
  have hm := Array.mem_of_getElem? ht
  have h1 : Tryd.prog.wantsStandIn 22 = false := by kernel_rfl
  have h2 : Tryd.prog.wantsStandIn 27 = false := by kernel_rfl
  simp only [List.mem_toArray, List.mem_cons, List.not_mem_nil, or_false] at hm
  rcases hm with rfl | rfl | rfl
  · first | exact h1 | exact h2
  · first | exact h1 | exact h2
  · first | exact h2 | exact h1
end lawExecRuns
/-- the card of ExecRuns, second form -/
theorem execRuns_card : Rows.ExecRunsUptoCardSaid :=
  Claim7.holds_tied_plain_at .later [] _ _ _ _ lawExecRuns.said (fun _ h => by cases h) (by kernel_rfl) (fun _ h => by cases h) execRunsUpto_row_tie rfl ⟨rfl, rfl⟩ (by kernel_rfl) rfl lawExecRuns.plain (by kernel_rfl)
#print axioms execRuns_card
namespace lawExecOpens
theorem own : ownKnob Tryd.prog.godebug = none := by kernel_rfl
theorem laid : laidOutB Tryd.prog = true := by kernel_rfl
theorem rowed : mapsRowed Tryd.prog = true := by kernel_rfl
theorem voids : noVoid Tryd.prog = true := by kernel_rfl
theorem contract (H : Type) (enc : TypeId × Value → H) (W : World) (base : Nat) (args : Array Value) (ds gs : List (DataW H)) (before : List MemPlace)
    (hval : ∀ (j : Nat) t v, Tryd.f4.params[j]? = some t → args[j]? = some v → Value.okWide Tryd.prog W .any base t v)
    (hW : DataW.Whole enc Tryd.prog Tryd.f4.params.toList Rows.execOpensSpec.vars false W args.toList ds gs before) (hsmall : Rows.uptoBulkAll (ds ++ gs) ≤ 1048576) (hlaid : laidMetH Tryd.prog Rows.execOpensUptoRow.laid W) :
    Calls Tryd.prog 4 args W fun e W' => ∃ v, e = .returned v ∧ Rows.execOpensSpec.post enc Tryd.prog Tryd.f4 false true false false W args v W' := by
  have hW0 := hW
  obtain ⟨p, q, hA0, hV, rfl, hfz, hnd⟩ := hW
  have hA : DataW.TrodAll enc Tryd.prog W 0 (fun _ => true) true Tryd.f4.params.toList args.toList ds p := hA0
  rw [Tryd.params4] at hA hval
  obtain ⟨v0, vs0, d0, ds0, p0, q0, hargs, rfl, rfl, h0, r0⟩ := trodAll_cons hA
  obtain ⟨v1, vs1, d1, ds1, p1, q1, rfl, rfl, rfl, h1, r1⟩ := trodAll_cons r0
  obtain ⟨v2, vs2, d2, ds2, p2, q2, rfl, rfl, rfl, h2, r2⟩ := trodAll_cons r1
  obtain ⟨rfl, rfl, rfl⟩ := trodAll_nil r2
  obtain rfl : args = #[v0, v1, v2] := by cases args; simp_all
  obtain ⟨rfl, rfl⟩ := trodVars_none hV
  obtain ⟨u, rfl, hu, bu⟩ := (op_steps (enc := enc) (w := W)).slc Tryd.underlying32 (hval 0 32 v0 rfl rfl) h0
  obtain ⟨k, rfl, hk, bk⟩ := (op_steps (enc := enc) (w := W)).slc Tryd.underlying32 (hval 1 32 v1 rfl rfl) h1
  obtain ⟨v, rfl, hv, bv⟩ := (op_env (enc := enc) (w := W)).agg Tryd.underlying27 (hval 2 27 v2 rfl rfl) h2
  simp only [List.append_nil, Rows.uptoBulkAll] at hsmall
  refine (law14_Opens u.1.A u.1.c u.2 k.1.A k.1.c k.2 v.1 v.2.l W (kok (List.mem_cons_self ..) (by kernel_rfl) hlaid) hu.1 (fun g hg => (hu.2 g hg).1) hk.1 (fun g hg => (hk.2 g hg).1) ⟨hv, ⟨fun g hg => (hu.2 g hg).2, fun g hg => (hk.2 g hg).2⟩, st_small bu (by omega), st_small bk (by omega)⟩).mono fun e W' ⟨rr, he, hst, hr⟩ => ?_
  subst he
  first | exact ⟨_, rfl, post_true hst laid rowed voids (by decide) rfl Tryd.underlying4 rfl hW0 rfl⟩ | (have hr' : rr = true := hr; subst hr'; exact ⟨_, rfl, post_true hst laid rowed voids (by decide) rfl Tryd.underlying4 rfl hW0 rfl⟩)
theorem laid_met (os : Os) (args : Array Value) : laidMet Tryd.prog Rows.execOpensUptoRow.laid ((World.doorLaid Tryd.prog 14 os).forCall (fun _ _ => 0) ⟨#[], args, []⟩).memory :=
  laidMet_of_run' 8 (by kernel_rfl) (by kernel_rfl)
theorem reads (os : Os) {H : Type} (enc : TypeId × Value → H) : ∃ places, DataW.whole enc Tryd.prog ((World.doorLaid Tryd.prog 14 os).forCall (fun _ _ => 0) ⟨#[], #[.slice none 0 0, .slice none 0 0, .agg (Value.int .u32 0 :: List.replicate 32 (Value.int .u8 0)).toArray], []⟩).memory Tryd.f4.params.toList Rows.execOpensSpec.vars false (#[.slice none 0 0, .slice none 0 0, .agg (Value.int .u32 0 :: List.replicate 32 (Value.int .u8 0)).toArray] : Array Value).toList 8 = some ([.nil, .nil, .agg [.lit (.int .u32 0), .agg (List.replicate 32 (.lit (.int .u8 0)))]], [], places) :=
  ⟨[], by kernel_rfl⟩
theorem lifted (os : Os) (started : os.Started) (H : Type) (enc : TypeId × Value → H) (F : Stop.Interp) :
    ReturnsInHanded {} Tryd.checked os 4 .any ((Rows.OpenSpec.upto Rows.execOpensSpec).preRow enc Tryd.prog Tryd.f4 Rows.execOpensUptoRow.domain false Rows.execOpensUptoRow.laid) (((Rows.OpenSpec.upto Rows.execOpensSpec).at F).post enc Tryd.prog Tryd.f4 false true false false) := by
  obtain ⟨places, hx⟩ := reads os enc
  refine returnsInHanded_of_row (C := Tryd.checked) (s := Rows.OpenSpec.upto Rows.execOpensSpec) own started (by kernel_rfl) Tryd.func4
    (witness_row_at (enc := enc) (C := Tryd.checked) false (World.doorLaid Tryd.prog 14 os) #[.slice none 0 0, .slice none 0 0, .agg (Value.int .u32 0 :: List.replicate 32 (Value.int .u8 0)).toArray] rfl (by kernel_rfl) (by kernel_rfl) (by kernel_rfl)
      (OpenSpec.preRow_of_cond 8 hx (by kernel_rfl) (fun k hk => by cases hk; kernel_rfl) (by kernel_rfl) (laid_met os _))) ?_
  intro W base args ds gs before hval hW _ hcond _ hlaid _ _
  exact contract H enc W base args ds gs before hval hW (of_decide_eq_true (hcond _ rfl)) hlaid
theorem said : Rows.ExecOpensUptoSaid :=
  OpenClaim.holds_of_cond 4 Tryd.f4 rfl rfl rfl rfl rfl rfl rfl ⟨rfl, rfl, rfl, rfl, rfl⟩ rfl rfl rfl rfl rfl (by kernel_rfl) Tryd.func4 (by kernel_rfl)
    (of_decide_eq_true (by kernel_rfl)) (by unfold Func.isWrapper; first | (rw [if_pos (by decide +kernel)]; kernel_rfl) | (rw [if_neg (by decide +kernel)]; exact ⟨rfl, rfl⟩))
    (fun os started H enc _ F => by rw [OpenClaim.pre_eq_preRow]; exact lifted os started H enc F)
theorem plain (f : FuncId) (fn : Func) (hf : Tryd.pinned.checked.prog.funcNamed "moneyer/moneyerlaw14.ExecOpens" = some f) (hfn : Tryd.pinned.checked.prog.funcs[f]? = some fn) :
    false = Tryd.pinned.checked.prog.looks [] ∧ ∀ (j : Nat) t, fn.params[j]? = some t → Tryd.pinned.checked.prog.wantsStandIn t = false := by
  obtain rfl : f = 4 := Option.some.inj ((show Tryd.prog.funcNamed "moneyer/moneyerlaw14.ExecOpens" = some 4 by kernel_rfl).symm.trans hf) |>.symm
  obtain rfl : fn = Tryd.f4 := (Option.some.inj (Tryd.func4.symm.trans hfn)).symm
  refine ⟨by kernel_rfl, fun j t ht => ?_⟩
  rw [Tryd.params4] at ht
  have hm := Array.mem_of_getElem? ht
  have h1 : Tryd.prog.wantsStandIn 32 = false := by kernel_rfl
  have h2 : Tryd.prog.wantsStandIn 27 = false := by kernel_rfl
  simp only [List.mem_toArray, List.mem_cons, List.not_mem_nil, or_false] at hm
  rcases hm with rfl | rfl | rfl
  · first | exact h1 | exact h2
  · first | exact h1 | exact h2
  · first | exact h2 | exact h1
end lawExecOpens
/-- the card of ExecOpens, second form -/
theorem execOpens_card : Rows.ExecOpensUptoCardSaid :=
  Claim7.holds_tied_plain_at .later [] _ _ _ _ lawExecOpens.said (fun _ h => by cases h) (by kernel_rfl) (fun _ h => by cases h) execOpensUpto_row_tie rfl ⟨rfl, rfl⟩ (by kernel_rfl) rfl lawExecOpens.plain (by kernel_rfl)
#print axioms execOpens_card
namespace lawExecSteps
theorem own : ownKnob Tryd.prog.godebug = none := by kernel_rfl
theorem laid : laidOutB Tryd.prog = true := by kernel_rfl
theorem rowed : mapsRowed Tryd.prog = true := by kernel_rfl
theorem voids : noVoid Tryd.prog = true := by kernel_rfl
theorem contract (H : Type) (enc : TypeId × Value → H) (W : World) (base : Nat) (args : Array Value) (ds gs : List (DataW H)) (before : List MemPlace)
    (hval : ∀ (j : Nat) t v, Tryd.f5.params[j]? = some t → args[j]? = some v → Value.okWide Tryd.prog W .any base t v)
    (hW : DataW.Whole enc Tryd.prog Tryd.f5.params.toList Rows.execStepsSpec.vars false W args.toList ds gs before) (hsmall : Rows.uptoBulkAll (ds ++ gs) ≤ 1048576) (hlaid : laidMetH Tryd.prog Rows.execStepsUptoRow.laid W) :
    Calls Tryd.prog 5 args W fun e W' => ∃ v, e = .returned v ∧ Rows.execStepsSpec.post enc Tryd.prog Tryd.f5 false true false false W args v W' := by
  have hW0 := hW
  obtain ⟨p, q, hA0, hV, rfl, hfz, hnd⟩ := hW
  have hA : DataW.TrodAll enc Tryd.prog W 0 (fun _ => true) true Tryd.f5.params.toList args.toList ds p := hA0
  rw [Tryd.params5] at hA hval
  obtain ⟨v0, vs0, d0, ds0, p0, q0, hargs, rfl, rfl, h0, r0⟩ := trodAll_cons hA
  obtain ⟨v1, vs1, d1, ds1, p1, q1, rfl, rfl, rfl, h1, r1⟩ := trodAll_cons r0
  obtain ⟨v2, vs2, d2, ds2, p2, q2, rfl, rfl, rfl, h2, r2⟩ := trodAll_cons r1
  obtain ⟨rfl, rfl, rfl⟩ := trodAll_nil r2
  obtain rfl : args = #[v0, v1, v2] := by cases args; simp_all
  obtain ⟨rfl, rfl⟩ := trodVars_none hV
  obtain ⟨l, rfl, hl, bl⟩ := (op_steps (enc := enc) (w := W)).slc Tryd.underlying32 (hval 0 32 v0 rfl rfl) h0
  obtain ⟨s, rfl, hs, bs⟩ := (op_cells (enc := enc) (w := W)).slc Tryd.underlying37 (hval 1 37 v1 rfl rfl) h1
  obtain ⟨v, rfl, hv, bv⟩ := (op_env (enc := enc) (w := W)).agg Tryd.underlying27 (hval 2 27 v2 rfl rfl) h2
  simp only [List.append_nil, Rows.uptoBulkAll] at hsmall
  refine (law14_Steps l.1.A l.1.c l.2 s.1.A s.1.c s.2 v.1 v.2.l W (kok (List.mem_cons_self ..) (by kernel_rfl) hlaid) hl.1 (fun g hg => (hl.2 g hg).1) hs.1 hs.2 ⟨hv, fun g hg => (hl.2 g hg).2, st_small bl (by omega), cs_small bs (by omega)⟩).mono fun e W' ⟨rr, he, hst, hr⟩ => ?_
  subst he
  first | exact ⟨_, rfl, post_true hst laid rowed voids (by decide) rfl Tryd.underlying4 rfl hW0 rfl⟩ | (have hr' : rr = true := hr; subst hr'; exact ⟨_, rfl, post_true hst laid rowed voids (by decide) rfl Tryd.underlying4 rfl hW0 rfl⟩)
theorem laid_met (os : Os) (args : Array Value) : laidMet Tryd.prog Rows.execStepsUptoRow.laid ((World.doorLaid Tryd.prog 14 os).forCall (fun _ _ => 0) ⟨#[], args, []⟩).memory :=
  laidMet_of_run' 8 (by kernel_rfl) (by kernel_rfl)
theorem reads (os : Os) {H : Type} (enc : TypeId × Value → H) : ∃ places, DataW.whole enc Tryd.prog ((World.doorLaid Tryd.prog 14 os).forCall (fun _ _ => 0) ⟨#[], #[.slice none 0 0, .slice none 0 0, .agg (Value.int .u32 0 :: List.replicate 32 (Value.int .u8 0)).toArray], []⟩).memory Tryd.f5.params.toList Rows.execStepsSpec.vars false (#[.slice none 0 0, .slice none 0 0, .agg (Value.int .u32 0 :: List.replicate 32 (Value.int .u8 0)).toArray] : Array Value).toList 8 = some ([.nil, .nil, .agg [.lit (.int .u32 0), .agg (List.replicate 32 (.lit (.int .u8 0)))]], [], places) :=
  ⟨[], by kernel_rfl⟩
theorem lifted (os : Os) (started : os.Started) (H : Type) (enc : TypeId × Value → H) (F : Stop.Interp) :
    ReturnsInHanded {} Tryd.checked os 5 .any ((Rows.OpenSpec.upto Rows.execStepsSpec).preRow enc Tryd.prog Tryd.f5 Rows.execStepsUptoRow.domain false Rows.execStepsUptoRow.laid) (((Rows.OpenSpec.upto Rows.execStepsSpec).at F).post enc Tryd.prog Tryd.f5 false true false false) := by
  obtain ⟨places, hx⟩ := reads os enc
  refine returnsInHanded_of_row (C := Tryd.checked) (s := Rows.OpenSpec.upto Rows.execStepsSpec) own started (by kernel_rfl) Tryd.func5
    (witness_row_at (enc := enc) (C := Tryd.checked) false (World.doorLaid Tryd.prog 14 os) #[.slice none 0 0, .slice none 0 0, .agg (Value.int .u32 0 :: List.replicate 32 (Value.int .u8 0)).toArray] rfl (by kernel_rfl) (by kernel_rfl) (by kernel_rfl)
      (OpenSpec.preRow_of_cond 8 hx (by kernel_rfl) (fun k hk => by cases hk; kernel_rfl) (by kernel_rfl) (laid_met os _))) ?_
  intro W base args ds gs before hval hW _ hcond _ hlaid _ _
  exact contract H enc W base args ds gs before hval hW (of_decide_eq_true (hcond _ rfl)) hlaid
theorem said : Rows.ExecStepsUptoSaid :=
  OpenClaim.holds_of_cond 5 Tryd.f5 rfl rfl rfl rfl rfl rfl rfl ⟨rfl, rfl, rfl, rfl, rfl⟩ rfl rfl rfl rfl rfl (by kernel_rfl) Tryd.func5 (by kernel_rfl)
    (of_decide_eq_true (by kernel_rfl)) (by unfold Func.isWrapper; first | (rw [if_pos (by decide +kernel)]; kernel_rfl) | (rw [if_neg (by decide +kernel)]; exact ⟨rfl, rfl⟩))
    (fun os started H enc _ F => by rw [OpenClaim.pre_eq_preRow]; exact lifted os started H enc F)
theorem plain (f : FuncId) (fn : Func) (hf : Tryd.pinned.checked.prog.funcNamed "moneyer/moneyerlaw14.ExecSteps" = some f) (hfn : Tryd.pinned.checked.prog.funcs[f]? = some fn) :
    false = Tryd.pinned.checked.prog.looks [] ∧ ∀ (j : Nat) t, fn.params[j]? = some t → Tryd.pinned.checked.prog.wantsStandIn t = false := by
  obtain rfl : f = 5 := Option.some.inj ((show Tryd.prog.funcNamed "moneyer/moneyerlaw14.ExecSteps" = some 5 by kernel_rfl).symm.trans hf) |>.symm
  obtain rfl : fn = Tryd.f5 := (Option.some.inj (Tryd.func5.symm.trans hfn)).symm
  refine ⟨by kernel_rfl, fun j t ht => ?_⟩
  rw [Tryd.params5] at ht
  have hm := Array.mem_of_getElem? ht
  have h1 : Tryd.prog.wantsStandIn 32 = false := by kernel_rfl
  have h2 : Tryd.prog.wantsStandIn 37 = false := by kernel_rfl
  have h3 : Tryd.prog.wantsStandIn 27 = false := by kernel_rfl
  simp only [List.mem_toArray, List.mem_cons, List.not_mem_nil, or_false] at hm
  rcases hm with rfl | rfl | rfl
  · first | exact h1 | exact h2 | exact h3
  · first | exact h2 | exact h1 | exact h3
  · first | exact h3 | exact h1 | exact h2
end lawExecSteps
/-- the card of ExecSteps, second form -/
theorem execSteps_card : Rows.ExecStepsUptoCardSaid :=
  Claim7.holds_tied_plain_at .later [] _ _ _ _ lawExecSteps.said (fun _ h => by cases h) (by kernel_rfl) (fun _ h => by cases h) execStepsUpto_row_tie rfl ⟨rfl, rfl⟩ (by kernel_rfl) rfl lawExecSteps.plain (by kernel_rfl)
#print axioms execSteps_card
end Go.Proofs.YtkjpemkankefnaaDoor
