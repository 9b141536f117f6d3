/-
  With another root a block that is sealed is not: where what it reads is of bulk at most 1048576.
-/
import Derived.Test.YtalainpmlonahaaDoorBt
import Derived.Test.YtalainpmlonahaaDoorBo
set_option linter.all false
set_option maxRecDepth 100000
namespace Go.Proofs.YtalainpmlonahaaDoor
open Go.RowKit Go.ChangeShapes Go.WideShapes Go.ChangeAt
namespace lawBlockSealed
theorem own : ownKnob Tryd.prog.godebug = none := by kernel_rfl
theorem laid : laidOutB Tryd.prog = true := by kernel_rfl
theorem rowed : mapsRowed Tryd.prog = true := by kernel_rfl
theorem voids : noVoid Tryd.prog = true := by kernel_rfl
theorem contract (H : Type) (enc : TypeId × Value → H) (W : World) (base : Nat) (args : Array Value) (ds gs : List (DataW H)) (before : List MemPlace)
    (hval : ∀ (j : Nat) t v, Tryd.f5.params[j]? = some t → args[j]? = some v → Value.okWide Tryd.prog W .any base t v)
    (hW : DataW.Whole enc Tryd.prog Tryd.f5.params.toList Rows.blockSealedSpec.vars false W args.toList ds gs before) (hsmall : Rows.uptoBulkAll (ds ++ gs) ≤ 1048576) (hlaid : laidMetH Tryd.prog Rows.blockSealedUptoRow.laid W) :
    Calls Tryd.prog 5 args W fun e W' => ∃ v, e = .returned v ∧ Rows.blockSealedSpec.post enc Tryd.prog Tryd.f5 false true false false W args v W' := by
  have hW0 := hW
  obtain ⟨p, q, hA0, hV, rfl, hfz, hnd⟩ := hW
  have hA : DataW.TrodAll enc Tryd.prog W 0 (fun _ => true) true Tryd.f5.params.toList args.toList ds p := hA0
  rw [Tryd.params5] at hA hval
  obtain ⟨v0, vs0, d0, ds0, p0, q0, hargs, rfl, rfl, h0, r0⟩ := trodAll_cons hA
  obtain ⟨v1, vs1, d1, ds1, p1, q1, rfl, rfl, rfl, h1, r1⟩ := trodAll_cons r0
  obtain ⟨v2, vs2, d2, ds2, p2, q2, rfl, rfl, rfl, h2, r2⟩ := trodAll_cons r1
  obtain ⟨rfl, rfl, rfl⟩ := trodAll_nil r2
  obtain rfl : args = #[v0, v1, v2] := by cases args; simp_all
  obtain ⟨rfl, rfl⟩ := trodVars_none hV
  obtain ⟨b, rfl, hb, bb⟩ := (op_block (enc := enc) (w := W)).agg Tryd.underlying36 (hval 0 36 v0 rfl rfl) h0
  obtain ⟨n, rfl, rfl, rfl, wn⟩ := open_int Tryd.underlying5 (hval 1 5 v1 rfl rfl) h1
  obtain ⟨k, rfl, rfl, rfl, wk⟩ := open_int Tryd.underlying5 (hval 2 5 v2 rfl rfl) h2
  simp only [List.append_nil, Rows.uptoBulkAll] at hsmall
  refine (blockSealed_ok _ _ _ _ _ _ _ _ _ _ W (kokH hlaid) (eokH hlaid) hb.t hb.p ⟨wf_u8 wn, wf_u8 wk⟩).mono fun e W' ⟨rr, he, hst, hr⟩ => ?_
  subst he
  first | exact ⟨_, rfl, post_true hst laid rowed voids (by decide) rfl Tryd.underlying4 rfl hW0 rfl⟩ | (have hr' : rr = true := hr; subst hr'; exact ⟨_, rfl, post_true hst laid rowed voids (by decide) rfl Tryd.underlying4 rfl hW0 rfl⟩)
theorem laid_met (os : Os) (args : Array Value) : laidMetH Tryd.prog Rows.blockSealedUptoRow.laid ((World.doorLaid Tryd.prog 21 os).forCall (fun _ _ => 0) ⟨#[], args, []⟩).memory :=
  laidMetH_of_parts (laidMet_of_run' 8 (by kernel_rfl) (by kernel_rfl)) (by kernel_rfl)
theorem reads (os : Os) {H : Type} (enc : TypeId × Value → H) : ∃ places, DataW.whole enc Tryd.prog ((World.doorLaid Tryd.prog 21 os).forCall (fun _ _ => 0) ⟨#[], #[.agg (List.replicate 64 (Value.int .u8 0) ++ [Value.int .u32 0, Value.int .u32 0, Value.int .u32 0, Value.slice none 0 0]).toArray, .int .u8 0, .int .u8 0], []⟩).memory Tryd.f5.params.toList Rows.blockSealedSpec.vars false (#[.agg (List.replicate 64 (Value.int .u8 0) ++ [Value.int .u32 0, Value.int .u32 0, Value.int .u32 0, Value.slice none 0 0]).toArray, .int .u8 0, .int .u8 0] : Array Value).toList 8 = some ([.agg [.agg [.agg (List.replicate 32 (.lit (.int .u8 0))), .agg (List.replicate 32 (.lit (.int .u8 0))), .lit (.int .u32 0), .lit (.int .u32 0), .lit (.int .u32 0)], .nil], .lit (.int .u8 0), .lit (.int .u8 0)], [], places) :=
  ⟨[], by kernel_rfl⟩
theorem lifted (os : Os) (started : os.Started) (H : Type) (enc : TypeId × Value → H) (F : Stop.Interp) :
    ReturnsInHanded {} Tryd.checked os 5 .any ((Rows.OpenSpec.upto Rows.blockSealedSpec).preRow enc Tryd.prog Tryd.f5 Rows.blockSealedUptoRow.domain false Rows.blockSealedUptoRow.laid) (((Rows.OpenSpec.upto Rows.blockSealedSpec).at F).post enc Tryd.prog Tryd.f5 false true false false) := by
  obtain ⟨places, hx⟩ := reads os enc
  refine returnsInHanded_of_row (C := Tryd.checked) (s := Rows.OpenSpec.upto Rows.blockSealedSpec) own started (by kernel_rfl) Tryd.func5
    (witness_row_at (enc := enc) (C := Tryd.checked) false (World.doorLaid Tryd.prog 21 os) #[.agg (List.replicate 64 (Value.int .u8 0) ++ [Value.int .u32 0, Value.int .u32 0, Value.int .u32 0, Value.slice none 0 0]).toArray, .int .u8 0, .int .u8 0] rfl (by kernel_rfl) (by kernel_rfl) (by kernel_rfl)
      (OpenSpec.preRow_of_cond 8 hx (by kernel_rfl) (fun k hk => by cases hk; kernel_rfl) (by kernel_rfl) (laid_met os _))) ?_
  intro W base args ds gs before hval hW _ hcond _ hlaid _ _
  exact contract H enc W base args ds gs before hval hW (of_decide_eq_true (hcond _ rfl)) hlaid
theorem said : Rows.BlockSealedUptoSaid :=
  OpenClaim.holds_of_cond 5 Tryd.f5 rfl rfl rfl rfl rfl rfl rfl ⟨rfl, rfl, rfl, rfl, rfl⟩ rfl rfl rfl rfl rfl (by kernel_rfl) Tryd.func5 (by kernel_rfl)
    (of_decide_eq_true (by kernel_rfl)) (by unfold Func.isWrapper; first | (rw [if_pos (by decide +kernel)]; kernel_rfl) | (rw [if_neg (by decide +kernel)]; exact ⟨rfl, rfl⟩))
    (fun os started H enc _ F => by rw [OpenClaim.pre_eq_preRow]; exact lifted os started H enc F)
theorem plain (f : FuncId) (fn : Func) (hf : Tryd.pinned.checked.prog.funcNamed "moneyer/moneyerlaw10.BlockSealed" = some f) (hfn : Tryd.pinned.checked.prog.funcs[f]? = some fn) :
    true = Tryd.pinned.checked.prog.looks [] ∧ ∀ (j : Nat) t, fn.params[j]? = some t → Tryd.pinned.checked.prog.wantsStandIn t = false := by
  obtain rfl : f = 5 := Option.some.inj ((show Tryd.prog.funcNamed "moneyer/moneyerlaw10.BlockSealed" = some 5 by kernel_rfl).symm.trans hf) |>.symm
  obtain rfl : fn = Tryd.f5 := (Option.some.inj (Tryd.func5.symm.trans hfn)).symm
  refine ⟨by kernel_rfl, fun j t ht => ?_⟩
  rw [Tryd.params5] at ht
  have hm := Array.mem_of_getElem? ht
  have h1 : Tryd.prog.wantsStandIn 36 = false := by kernel_rfl
  have h2 : Tryd.prog.wantsStandIn 5 = false := by kernel_rfl
  simp only [List.mem_toArray, List.mem_cons, List.not_mem_nil, or_false] at hm
  rcases hm with rfl | rfl | rfl
  · first | exact h1 | exact h2
  · first | exact h2 | exact h1
  · first | exact h2 | exact h1
end lawBlockSealed
/-- the card of BlockSealed, second form -/
theorem blockSealed_card : Rows.BlockSealedUptoCardSaid :=
  Claim7.holds_tied_plain_at .later [] _ _ _ _ lawBlockSealed.said (fun _ h => by cases h) (by kernel_rfl) (fun _ h => by cases h) blockSealedUpto_row_tie rfl ⟨rfl, rfl⟩ (by kernel_rfl) rfl lawBlockSealed.plain (by kernel_rfl)
#print axioms blockSealed_card
end Go.Proofs.YtalainpmlonahaaDoor
