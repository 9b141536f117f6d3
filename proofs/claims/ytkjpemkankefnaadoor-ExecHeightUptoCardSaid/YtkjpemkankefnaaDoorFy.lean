/-
  ExecParts, ExecSound, ExecHeight: where what it reads is of bulk at most 1048576, the law answers true, and each argument reads behind the call as it read before.
-/
import Derived.Test.YtkjpemkankefnaaDoorVop
import Derived.Test.YtkjpemkankefnaaDoorFc
set_option linter.all false
set_option maxRecDepth 100000
set_option maxHeartbeats 4000000
namespace Go.Proofs.YtkjpemkankefnaaDoor
open Go.RowKit Go.ChangeShapes Go.WideShapes Go.ChangeAt
namespace lawExecParts
theorem own : ownKnob Tryd.prog.godebug = none := by kernel_rfl
theorem laid : laidOutB Tryd.prog = true := by kernel_rfl
theorem rowed : mapsRowed Tryd.prog = true := by kernel_rfl
theorem voids : noVoid Tryd.prog = true := by kernel_rfl
theorem contract (H : Type) (enc : TypeId × Value → H) (W : World) (base : Nat) (args : Array Value) (ds gs : List (DataW H)) (before : List MemPlace)
    (hval : ∀ (j : Nat) t v, Tryd.f6.params[j]? = some t → args[j]? = some v → Value.okWide Tryd.prog W .any base t v)
    (hW : DataW.Whole enc Tryd.prog Tryd.f6.params.toList Rows.execPartsSpec.vars false W args.toList ds gs before) (hsmall : Rows.uptoBulkAll (ds ++ gs) ≤ 1048576) (hlaid : laidMetH Tryd.prog Rows.execPartsUptoRow.laid W) :
    Calls Tryd.prog 6 args W fun e W' => ∃ v, e = .returned v ∧ Rows.execPartsSpec.post enc Tryd.prog Tryd.f6 false true false false W args v W' := by
  have hW0 := hW
  obtain ⟨p, q, hA0, hV, rfl, hfz, hnd⟩ := hW
  have hA : DataW.TrodAll enc Tryd.prog W 0 (fun _ => true) true Tryd.f6.params.toList args.toList ds p := hA0
  rw [Tryd.params6] at hA hval
  obtain ⟨v0, vs0, d0, ds0, p0, q0, hargs, rfl, rfl, h0, r0⟩ := trodAll_cons hA
  obtain ⟨v1, vs1, d1, ds1, p1, q1, rfl, rfl, rfl, h1, r1⟩ := trodAll_cons r0
  obtain ⟨v2, vs2, d2, ds2, p2, q2, rfl, rfl, rfl, h2, r2⟩ := trodAll_cons r1
  obtain ⟨v3, vs3, d3, ds3, p3, q3, rfl, rfl, rfl, h3, r3⟩ := trodAll_cons r2
  obtain ⟨rfl, rfl, rfl⟩ := trodAll_nil r3
  obtain rfl : args = #[v0, v1, v2, v3] := by cases args; simp_all
  obtain ⟨rfl, rfl⟩ := trodVars_none hV
  obtain ⟨l, rfl, hl, bl⟩ := (op_steps (enc := enc) (w := W)).slc Tryd.underlying32 (hval 0 32 v0 rfl rfl) h0
  obtain ⟨n, rfl, rfl, rfl, wn⟩ := open_int Tryd.underlying5 (hval 1 5 v1 rfl rfl) h1
  obtain ⟨s, rfl, hs, bs⟩ := (op_cells (enc := enc) (w := W)).slc Tryd.underlying37 (hval 2 37 v2 rfl rfl) h2
  obtain ⟨v, rfl, hv, bv⟩ := (op_env (enc := enc) (w := W)).agg Tryd.underlying27 (hval 3 27 v3 rfl rfl) h3
  simp only [List.append_nil, Rows.uptoBulkAll] at hsmall
  refine (law14_Parts l.1.A l.1.c l.2 n s.1.A s.1.c s.2 v.1 v.2.l W (kok (List.mem_cons_self ..) (by kernel_rfl) hlaid) hl.1 (fun g hg => (hl.2 g hg).1) hs.1 hs.2 ⟨hv, fun g hg => (hl.2 g hg).2, st_small bl (by omega), cs_small bs (by omega), wf_u8 wn⟩).mono fun e W' ⟨rr, he, hst, hr⟩ => ?_
  subst he
  first | exact ⟨_, rfl, post_true hst laid rowed voids (by decide) rfl Tryd.underlying4 rfl hW0 rfl⟩ | (have hr' : rr = true := hr; subst hr'; exact ⟨_, rfl, post_true hst laid rowed voids (by decide) rfl Tryd.underlying4 rfl hW0 rfl⟩)
theorem laid_met (os : Os) (args : Array Value) : laidMet Tryd.prog Rows.execPartsUptoRow.laid ((World.doorLaid Tryd.prog 14 os).forCall (fun _ _ => 0) ⟨#[], args, []⟩).memory :=
  laidMet_of_run' 8 (by kernel_rfl) (by kernel_rfl)
theorem reads (os : Os) {H : Type} (enc : TypeId × Value → H) : ∃ places, DataW.whole enc Tryd.prog ((World.doorLaid Tryd.prog 14 os).forCall (fun _ _ => 0) ⟨#[], #[.slice none 0 0, .int .u8 0, .slice none 0 0, .agg (Value.int .u32 0 :: List.replicate 32 (Value.int .u8 0)).toArray], []⟩).memory Tryd.f6.params.toList Rows.execPartsSpec.vars false (#[.slice none 0 0, .int .u8 0, .slice none 0 0, .agg (Value.int .u32 0 :: List.replicate 32 (Value.int .u8 0)).toArray] : Array Value).toList 8 = some ([.nil, .lit (.int .u8 0), .nil, .agg [.lit (.int .u32 0), .agg (List.replicate 32 (.lit (.int .u8 0)))]], [], places) :=
  ⟨[], by kernel_rfl⟩
theorem lifted (os : Os) (started : os.Started) (H : Type) (enc : TypeId × Value → H) (F : Stop.Interp) :
    ReturnsInHanded {} Tryd.checked os 6 .any ((Rows.OpenSpec.upto Rows.execPartsSpec).preRow enc Tryd.prog Tryd.f6 Rows.execPartsUptoRow.domain false Rows.execPartsUptoRow.laid) (((Rows.OpenSpec.upto Rows.execPartsSpec).at F).post enc Tryd.prog Tryd.f6 false true false false) := by
  obtain ⟨places, hx⟩ := reads os enc
  refine returnsInHanded_of_row (C := Tryd.checked) (s := Rows.OpenSpec.upto Rows.execPartsSpec) own started (by kernel_rfl) Tryd.func6
    (witness_row_at (enc := enc) (C := Tryd.checked) false (World.doorLaid Tryd.prog 14 os) #[.slice none 0 0, .int .u8 0, .slice none 0 0, .agg (Value.int .u32 0 :: List.replicate 32 (Value.int .u8 0)).toArray] rfl (by kernel_rfl) (by kernel_rfl) (by kernel_rfl)
      (OpenSpec.preRow_of_cond 8 hx (by kernel_rfl) (fun k hk => by cases hk; kernel_rfl) (by kernel_rfl) (laid_met os _))) ?_
  intro W base args ds gs before hval hW _ hcond _ hlaid _ _
  exact contract H enc W base args ds gs before hval hW (of_decide_eq_true (hcond _ rfl)) hlaid
theorem said : Rows.ExecPartsUptoSaid :=
  OpenClaim.holds_of_cond 6 Tryd.f6 rfl rfl rfl rfl rfl rfl rfl ⟨rfl, rfl, rfl, rfl, rfl⟩ rfl rfl rfl rfl rfl (by kernel_rfl) Tryd.func6 (by kernel_rfl)
    (of_decide_eq_true (by kernel_rfl)) (by unfold Func.isWrapper; first | (rw [if_pos (by decide +kernel)]; kernel_rfl) | (rw [if_neg (by decide +kernel)]; exact ⟨rfl, rfl⟩))
    (fun os started H enc _ F => by rw [OpenClaim.pre_eq_preRow]; exact lifted os started H enc F)
theorem plain (f : FuncId) (fn : Func) (hf : Tryd.pinned.checked.prog.funcNamed "moneyer/moneyerlaw14.ExecParts" = some f) (hfn : Tryd.pinned.checked.prog.funcs[f]? = some fn) :
    false = Tryd.pinned.checked.prog.looks [] ∧ ∀ (j : Nat) t, fn.params[j]? = some t → Tryd.pinned.checked.prog.wantsStandIn t = false := by
  obtain rfl : f = 6 := Option.some.inj ((show Tryd.prog.funcNamed "moneyer/moneyerlaw14.ExecParts" = some 6 by kernel_rfl).symm.trans hf) |>.symm
  obtain rfl : fn = Tryd.f6 := (Option.some.inj (Tryd.func6.symm.trans hfn)).symm
  refine ⟨by kernel_rfl, fun j t ht => ?_⟩
  rw [Tryd.params6] at ht
  have hm := Array.mem_of_getElem? ht
  have h1 : Tryd.prog.wantsStandIn 32 = false := by kernel_rfl
  have h2 : Tryd.prog.wantsStandIn 5 = false := by kernel_rfl
  have h3 : Tryd.prog.wantsStandIn 37 = false := by kernel_rfl
  have h4 : Tryd.prog.wantsStandIn 27 = false := by kernel_rfl
  simp only [List.mem_toArray, List.mem_cons, List.not_mem_nil, or_false] at hm
  rcases hm with rfl | rfl | rfl | rfl
  · first | exact h1 | exact h2 | exact h3 | exact h4
  · first | exact h2 | exact h1 | exact h3 | exact h4
  · first | exact h3 | exact h1 | exact h2 | exact h4
  · first | exact h4 | exact h1 | exact h2 | exact h3
end lawExecParts
/-- the card of ExecParts, second form -/
theorem execParts_card : Rows.ExecPartsUptoCardSaid :=
  Claim7.holds_tied_plain_at .later [] _ _ _ _ lawExecParts.said (fun _ h => by cases h) (by kernel_rfl) (fun _ h => by cases h) execPartsUpto_row_tie rfl ⟨rfl, rfl⟩ (by kernel_rfl) rfl lawExecParts.plain (by kernel_rfl)
#print axioms execParts_card
namespace lawExecSound
theorem own : ownKnob Tryd.prog.godebug = none := by kernel_rfl
theorem laid : laidOutB Tryd.prog = true := by kernel_rfl
theorem rowed : mapsRowed Tryd.prog = true := by kernel_rfl
theorem voids : noVoid Tryd.prog = true := by kernel_rfl
theorem contract (H : Type) (enc : TypeId × Value → H) (W : World) (base : Nat) (args : Array Value) (ds gs : List (DataW H)) (before : List MemPlace)
    (hval : ∀ (j : Nat) t v, Tryd.f7.params[j]? = some t → args[j]? = some v → Value.okWide Tryd.prog W .any base t v)
    (hW : DataW.Whole enc Tryd.prog Tryd.f7.params.toList Rows.execSoundSpec.vars false W args.toList ds gs before) (hsmall : Rows.uptoBulkAll (ds ++ gs) ≤ 1048576) (hlaid : laidMetH Tryd.prog Rows.execSoundUptoRow.laid W) :
    Calls Tryd.prog 7 args W fun e W' => ∃ v, e = .returned v ∧ Rows.execSoundSpec.post enc Tryd.prog Tryd.f7 false true false false W args v W' := by
  have hW0 := hW
  obtain ⟨p, q, hA0, hV, rfl, hfz, hnd⟩ := hW
  have hA : DataW.TrodAll enc Tryd.prog W 0 (fun _ => true) true Tryd.f7.params.toList args.toList ds p := hA0
  rw [Tryd.params7] at hA hval
  obtain ⟨v0, vs0, d0, ds0, p0, q0, hargs, rfl, rfl, h0, r0⟩ := trodAll_cons hA
  obtain ⟨v1, vs1, d1, ds1, p1, q1, rfl, rfl, rfl, h1, r1⟩ := trodAll_cons r0
  obtain ⟨v2, vs2, d2, ds2, p2, q2, rfl, rfl, rfl, h2, r2⟩ := trodAll_cons r1
  obtain ⟨rfl, rfl, rfl⟩ := trodAll_nil r2
  obtain rfl : args = #[v0, v1, v2] := by cases args; simp_all
  obtain ⟨rfl, rfl⟩ := trodVars_none hV
  obtain ⟨l, rfl, hl, bl⟩ := (op_steps (enc := enc) (w := W)).slc Tryd.underlying32 (hval 0 32 v0 rfl rfl) h0
  obtain ⟨s, rfl, hs, bs⟩ := (op_cells (enc := enc) (w := W)).slc Tryd.underlying37 (hval 1 37 v1 rfl rfl) h1
  obtain ⟨v, rfl, hv, bv⟩ := (op_env (enc := enc) (w := W)).agg Tryd.underlying27 (hval 2 27 v2 rfl rfl) h2
  simp only [List.append_nil, Rows.uptoBulkAll] at hsmall
  refine (law14_Sound l.1.A l.1.c l.2 s.1.A s.1.c s.2 v.1 v.2.l W (kok (List.mem_cons_self ..) (by kernel_rfl) hlaid) hl.1 (fun g hg => (hl.2 g hg).1) hs.1 hs.2 ⟨hv, fun g hg => (hl.2 g hg).2, st_small bl (by omega), cs_small bs (by omega)⟩).mono fun e W' ⟨rr, he, hst, hr⟩ => ?_
  subst he
  first | exact ⟨_, rfl, post_true hst laid rowed voids (by decide) rfl Tryd.underlying4 rfl hW0 rfl⟩ | (have hr' : rr = true := hr; subst hr'; exact ⟨_, rfl, post_true hst laid rowed voids (by decide) rfl Tryd.underlying4 rfl hW0 rfl⟩)
theorem laid_met (os : Os) (args : Array Value) : laidMet Tryd.prog Rows.execSoundUptoRow.laid ((World.doorLaid Tryd.prog 14 os).forCall (fun _ _ => 0) ⟨#[], args, []⟩).memory :=
  laidMet_of_run' 8 (by kernel_rfl) (by kernel_rfl)
theorem reads (os : Os) {H : Type} (enc : TypeId × Value → H) : ∃ places, DataW.whole enc Tryd.prog ((World.doorLaid Tryd.prog 14 os).forCall (fun _ _ => 0) ⟨#[], #[.slice none 0 0, .slice none 0 0, .agg (Value.int .u32 0 :: List.replicate 32 (Value.int .u8 0)).toArray], []⟩).memory Tryd.f7.params.toList Rows.execSoundSpec.vars false (#[.slice none 0 0, .slice none 0 0, .agg (Value.int .u32 0 :: List.replicate 32 (Value.int .u8 0)).toArray] : Array Value).toList 8 = some ([.nil, .nil, .agg [.lit (.int .u32 0), .agg (List.replicate 32 (.lit (.int .u8 0)))]], [], places) :=
  ⟨[], by kernel_rfl⟩
theorem lifted (os : Os) (started : os.Started) (H : Type) (enc : TypeId × Value → H) (F : Stop.Interp) :
    ReturnsInHanded {} Tryd.checked os 7 .any ((Rows.OpenSpec.upto Rows.execSoundSpec).preRow enc Tryd.prog Tryd.f7 Rows.execSoundUptoRow.domain false Rows.execSoundUptoRow.laid) (((Rows.OpenSpec.upto Rows.execSoundSpec).at F).post enc Tryd.prog Tryd.f7 false true false false) := by
  obtain ⟨places, hx⟩ := reads os enc
  refine returnsInHanded_of_row (C := Tryd.checked) (s := Rows.OpenSpec.upto Rows.execSoundSpec) own started (by kernel_rfl) Tryd.func7
    (witness_row_at (enc := enc) (C := Tryd.checked) false (World.doorLaid Tryd.prog 14 os) #[.slice none 0 0, .slice none 0 0, .agg (Value.int .u32 0 :: List.replicate 32 (Value.int .u8 0)).toArray] rfl (by kernel_rfl) (by kernel_rfl) (by kernel_rfl)
      (OpenSpec.preRow_of_cond 8 hx (by kernel_rfl) (fun k hk => by cases hk; kernel_rfl) (by kernel_rfl) (laid_met os _))) ?_
  intro W base args ds gs before hval hW _ hcond _ hlaid _ _
  exact contract H enc W base args ds gs before hval hW (of_decide_eq_true (hcond _ rfl)) hlaid
theorem said : Rows.ExecSoundUptoSaid :=
  OpenClaim.holds_of_cond 7 Tryd.f7 rfl rfl rfl rfl rfl rfl rfl ⟨rfl, rfl, rfl, rfl, rfl⟩ rfl rfl rfl rfl rfl (by kernel_rfl) Tryd.func7 (by kernel_rfl)
    (of_decide_eq_true (by kernel_rfl)) (by unfold Func.isWrapper; first | (rw [if_pos (by decide +kernel)]; kernel_rfl) | (rw [if_neg (by decide +kernel)]; exact ⟨rfl, rfl⟩))
    (fun os started H enc _ F => by rw [OpenClaim.pre_eq_preRow]; exact lifted os started H enc F)
theorem plain (f : FuncId) (fn : Func) (hf : Tryd.pinned.checked.prog.funcNamed "moneyer/moneyerlaw14.ExecSound" = some f) (hfn : Tryd.pinned.checked.prog.funcs[f]? = some fn) :
    false = Tryd.pinned.checked.prog.looks [] ∧ ∀ (j : Nat) t, fn.params[j]? = some t → Tryd.pinned.checked.prog.wantsStandIn t = false := by
  obtain rfl : f = 7 := Option.some.inj ((show Tryd.prog.funcNamed "moneyer/moneyerlaw14.ExecSound" = some 7 by kernel_rfl).symm.trans hf) |>.symm
  obtain rfl : fn = Tryd.f7 := (Option.some.inj (Tryd.func7.symm.trans hfn)).symm
  refine ⟨by kernel_rfl, fun j t ht => ?_⟩
  rw [Tryd.params7] at ht
  have hm := Array.mem_of_getElem? ht
  have h1 : Tryd.prog.wantsStandIn 32 = false := by kernel_rfl
  have h2 : Tryd.prog.wantsStandIn 37 = false := by kernel_rfl
  have h3 : Tryd.prog.wantsStandIn 27 = false := by kernel_rfl
  simp only [List.mem_toArray, List.mem_cons, List.not_mem_nil, or_false] at hm
  rcases hm with rfl | rfl | rfl
  · first | exact h1 | exact h2 | exact h3
  · first | exact h2 | exact h1 | exact h3
  · first | exact h3 | exact h1 | exact h2
end lawExecSound
/-- the card of ExecSound, second form -/
theorem execSound_card : Rows.ExecSoundUptoCardSaid :=
  Claim7.holds_tied_plain_at .later [] _ _ _ _ lawExecSound.said (fun _ h => by cases h) (by kernel_rfl) (fun _ h => by cases h) execSoundUpto_row_tie rfl ⟨rfl, rfl⟩ (by kernel_rfl) rfl lawExecSound.plain (by kernel_rfl)
#print axioms execSound_card
namespace lawExecHeight
theorem own : ownKnob Tryd.prog.godebug = none := by kernel_rfl
theorem laid : laidOutB Tryd.prog = true := by kernel_rfl
theorem rowed : mapsRowed Tryd.prog = true := by kernel_rfl
theorem voids : noVoid Tryd.prog = true := by kernel_rfl
theorem contract (H : Type) (enc : TypeId × Value → H) (W : World) (base : Nat) (args : Array Value) (ds gs : List (DataW H)) (before : List MemPlace)
    (hval : ∀ (j : Nat) t v, Tryd.f8.params[j]? = some t → args[j]? = some v → Value.okWide Tryd.prog W .any base t v)
    (hW : DataW.Whole enc Tryd.prog Tryd.f8.params.toList Rows.execHeightSpec.vars false W args.toList ds gs before) (hsmall : Rows.uptoBulkAll (ds ++ gs) ≤ 1048576) (hlaid : laidMetH Tryd.prog Rows.execHeightUptoRow.laid W) :
    Calls Tryd.prog 8 args W fun e W' => ∃ v, e = .returned v ∧ Rows.execHeightSpec.post enc Tryd.prog Tryd.f8 false true false false W args v W' := by
  have hW0 := hW
  obtain ⟨p, q, hA0, hV, rfl, hfz, hnd⟩ := hW
  have hA : DataW.TrodAll enc Tryd.prog W 0 (fun _ => true) true Tryd.f8.params.toList args.toList ds p := hA0
  rw [Tryd.params8] at hA hval
  obtain ⟨v0, vs0, d0, ds0, p0, q0, hargs, rfl, rfl, h0, r0⟩ := trodAll_cons hA
  obtain ⟨v1, vs1, d1, ds1, p1, q1, rfl, rfl, rfl, h1, r1⟩ := trodAll_cons r0
  obtain ⟨rfl, rfl, rfl⟩ := trodAll_nil r1
  obtain rfl : args = #[v0, v1] := by cases args; simp_all
  obtain ⟨rfl, rfl⟩ := trodVars_none hV
  obtain ⟨height, rfl, rfl, rfl, wheight⟩ := open_int Tryd.underlying23 (hval 0 23 v0 rfl rfl) h0
  obtain ⟨att, rfl, rfl, rfl, watt⟩ := open_int Tryd.underlying23 (hval 1 23 v1 rfl rfl) h1
  simp only [List.append_nil, Rows.uptoBulkAll] at hsmall
  refine (law14_Height height att W (kok (List.mem_cons_self ..) (by kernel_rfl) hlaid) ⟨wf_u32 wheight, wf_u32 watt⟩).mono fun e W' ⟨rr, he, hst, hr⟩ => ?_
  subst he
  first | exact ⟨_, rfl, post_true hst laid rowed voids (by decide) rfl Tryd.underlying4 rfl hW0 rfl⟩ | (have hr' : rr = true := hr; subst hr'; exact ⟨_, rfl, post_true hst laid rowed voids (by decide) rfl Tryd.underlying4 rfl hW0 rfl⟩)
theorem laid_met (os : Os) (args : Array Value) : laidMet Tryd.prog Rows.execHeightUptoRow.laid ((World.doorLaid Tryd.prog 14 os).forCall (fun _ _ => 0) ⟨#[], args, []⟩).memory :=
  laidMet_of_run' 8 (by kernel_rfl) (by kernel_rfl)
theorem reads (os : Os) {H : Type} (enc : TypeId × Value → H) : ∃ places, DataW.whole enc Tryd.prog ((World.doorLaid Tryd.prog 14 os).forCall (fun _ _ => 0) ⟨#[], #[.int .u32 0, .int .u32 0], []⟩).memory Tryd.f8.params.toList Rows.execHeightSpec.vars false (#[.int .u32 0, .int .u32 0] : Array Value).toList 8 = some ([.lit (.int .u32 0), .lit (.int .u32 0)], [], places) :=
  ⟨[], by kernel_rfl⟩
theorem lifted (os : Os) (started : os.Started) (H : Type) (enc : TypeId × Value → H) (F : Stop.Interp) :
    ReturnsInHanded {} Tryd.checked os 8 .any ((Rows.OpenSpec.upto Rows.execHeightSpec).preRow enc Tryd.prog Tryd.f8 Rows.execHeightUptoRow.domain false Rows.execHeightUptoRow.laid) (((Rows.OpenSpec.upto Rows.execHeightSpec).at F).post enc Tryd.prog Tryd.f8 false true false false) := by
  obtain ⟨places, hx⟩ := reads os enc
  refine returnsInHanded_of_row (C := Tryd.checked) (s := Rows.OpenSpec.upto Rows.execHeightSpec) own started (by kernel_rfl) Tryd.func8
    (witness_row_at (enc := enc) (C := Tryd.checked) false (World.doorLaid Tryd.prog 14 os) #[.int .u32 0, .int .u32 0] rfl (by kernel_rfl) (by kernel_rfl) (by kernel_rfl)
      (OpenSpec.preRow_of_cond 8 hx (by kernel_rfl) (fun k hk => by cases hk; kernel_rfl) (by kernel_rfl) (laid_met os _))) ?_
  intro W base args ds gs before hval hW _ hcond _ hlaid _ _
  exact contract H enc W base args ds gs before hval hW (of_decide_eq_true (hcond _ rfl)) hlaid
theorem said : Rows.ExecHeightUptoSaid :=
  OpenClaim.holds_of_cond 8 Tryd.f8 rfl rfl rfl rfl rfl rfl rfl ⟨rfl, rfl, rfl, rfl, rfl⟩ rfl rfl rfl rfl rfl (by kernel_rfl) Tryd.func8 (by kernel_rfl)
    (of_decide_eq_true (by kernel_rfl)) (by unfold Func.isWrapper; first | (rw [if_pos (by decide +kernel)]; kernel_rfl) | (rw [if_neg (by decide +kernel)]; exact ⟨rfl, rfl⟩))
    (fun os started H enc _ F => by rw [OpenClaim.pre_eq_preRow]; exact lifted os started H enc F)
theorem plain (f : FuncId) (fn : Func) (hf : Tryd.pinned.checked.prog.funcNamed "moneyer/moneyerlaw14.ExecHeight" = some f) (hfn : Tryd.pinned.checked.prog.funcs[f]? = some fn) :
    false = Tryd.pinned.checked.prog.looks [] ∧ ∀ (j : Nat) t, fn.params[j]? = some t → Tryd.pinned.checked.prog.wantsStandIn t = false := by
  obtain rfl : f = 8 := Option.some.inj ((show Tryd.prog.funcNamed "moneyer/moneyerlaw14.ExecHeight" = some 8 by kernel_rfl).symm.trans hf) |>.symm
  obtain rfl : fn = Tryd.f8 := (Option.some.inj (Tryd.func8.symm.trans hfn)).symm
  refine ⟨by kernel_rfl, fun j t ht => ?_⟩
  rw [Tryd.params8] at ht
  have hm := Array.mem_of_getElem? ht
  have h1 : Tryd.prog.wantsStandIn 23 = false := by kernel_rfl
  simp only [List.mem_toArray, List.mem_cons, List.not_mem_nil, or_false] at hm
  rcases hm with rfl | rfl <;> exact h1
end lawExecHeight
/-- the card of ExecHeight, second form -/
theorem execHeight_card : Rows.ExecHeightUptoCardSaid :=
  Claim7.holds_tied_plain_at .later [] _ _ _ _ lawExecHeight.said (fun _ h => by cases h) (by kernel_rfl) (fun _ h => by cases h) execHeightUpto_row_tie rfl ⟨rfl, rfl⟩ (by kernel_rfl) rfl lawExecHeight.plain (by kernel_rfl)
#print axioms execHeight_card
end Go.Proofs.YtkjpemkankefnaaDoor
