/-
  What is put is got, what is got is put as the same bytes, what is sealed is Sealed: where what it reads is of bulk at most 1048576.
-/
import Derived.Test.YtalainpmlonahaaDoorBv
import Derived.Test.YtalainpmlonahaaDoorBo
set_option linter.all false
set_option maxRecDepth 100000
namespace Go.Proofs.YtalainpmlonahaaDoor
open Go.RowKit Go.ChangeShapes Go.WideShapes Go.ChangeAt
namespace lawBlockBack
theorem own : ownKnob Tryd.prog.godebug = none := by kernel_rfl
theorem laid : laidOutB Tryd.prog = true := by kernel_rfl
theorem rowed : mapsRowed Tryd.prog = true := by kernel_rfl
theorem voids : noVoid Tryd.prog = true := by kernel_rfl
theorem contract (H : Type) (enc : TypeId × Value → H) (W : World) (base : Nat) (args : Array Value) (ds gs : List (DataW H)) (before : List MemPlace)
    (hval : ∀ (j : Nat) t v, Tryd.f6.params[j]? = some t → args[j]? = some v → Value.okWide Tryd.prog W .any base t v)
    (hW : DataW.Whole enc Tryd.prog Tryd.f6.params.toList Rows.blockBackSpec.vars false W args.toList ds gs before) (hsmall : Rows.uptoBulkAll (ds ++ gs) ≤ 1048576) (hlaid : laidMetH Tryd.prog Rows.blockBackUptoRow.laid W) :
    Calls Tryd.prog 6 args W fun e W' => ∃ v, e = .returned v ∧ Rows.blockBackSpec.post enc Tryd.prog Tryd.f6 false true false false W args v W' := by
  have hW0 := hW
  obtain ⟨p, q, hA0, hV, rfl, hfz, hnd⟩ := hW
  have hA : DataW.TrodAll enc Tryd.prog W 0 (fun _ => true) true Tryd.f6.params.toList args.toList ds p := hA0
  rw [Tryd.params6] at hA hval
  obtain ⟨v0, vs0, d0, ds0, p0, q0, hargs, rfl, rfl, h0, r0⟩ := trodAll_cons hA
  obtain ⟨v1, vs1, d1, ds1, p1, q1, rfl, rfl, rfl, h1, r1⟩ := trodAll_cons r0
  obtain ⟨rfl, rfl, rfl⟩ := trodAll_nil r1
  obtain rfl : args = #[v0, v1] := by cases args; simp_all
  obtain ⟨rfl, rfl⟩ := trodVars_none hV
  obtain ⟨b, rfl, hb, bb⟩ := (op_block (enc := enc) (w := W)).agg Tryd.underlying36 (hval 0 36 v0 rfl rfl) h0
  obtain ⟨lA, lc, l, rfl, hl, bl⟩ := open_bytes Tryd.underlying28 Tryd.underlying5 (by kernel_rfl) (hval 1 28 v1 rfl rfl) h1
  simp only [List.append_nil, Rows.uptoBulkAll] at hsmall
  refine (blockBack_ok _ _ _ _ _ _ _ _ _ _ _ W (kokH hlaid) (eokH hlaid) hb.t hb.p hl ⟨hb.n, by omega⟩).mono fun e W' ⟨rr, he, hst, hr⟩ => ?_
  subst he
  first | exact ⟨_, rfl, post_true hst laid rowed voids (by decide) rfl Tryd.underlying4 rfl hW0 rfl⟩ | (have hr' : rr = true := hr; subst hr'; exact ⟨_, rfl, post_true hst laid rowed voids (by decide) rfl Tryd.underlying4 rfl hW0 rfl⟩)
theorem laid_met (os : Os) (args : Array Value) : laidMetH Tryd.prog Rows.blockBackUptoRow.laid ((World.doorLaid Tryd.prog 21 os).forCall (fun _ _ => 0) ⟨#[], args, []⟩).memory :=
  laidMetH_of_parts (laidMet_of_run' 8 (by kernel_rfl) (by kernel_rfl)) (by kernel_rfl)
theorem reads (os : Os) {H : Type} (enc : TypeId × Value → H) : ∃ places, DataW.whole enc Tryd.prog ((World.doorLaid Tryd.prog 21 os).forCall (fun _ _ => 0) ⟨#[], #[.agg (List.replicate 64 (Value.int .u8 0) ++ [Value.int .u32 0, Value.int .u32 0, Value.int .u32 0, Value.slice none 0 0]).toArray, .slice none 0 0], []⟩).memory Tryd.f6.params.toList Rows.blockBackSpec.vars false (#[.agg (List.replicate 64 (Value.int .u8 0) ++ [Value.int .u32 0, Value.int .u32 0, Value.int .u32 0, Value.slice none 0 0]).toArray, .slice none 0 0] : Array Value).toList 8 = some ([.agg [.agg [.agg (List.replicate 32 (.lit (.int .u8 0))), .agg (List.replicate 32 (.lit (.int .u8 0))), .lit (.int .u32 0), .lit (.int .u32 0), .lit (.int .u32 0)], .nil], .nil], [], places) :=
  ⟨[], by kernel_rfl⟩
theorem lifted (os : Os) (started : os.Started) (H : Type) (enc : TypeId × Value → H) (F : Stop.Interp) :
    ReturnsInHanded {} Tryd.checked os 6 .any ((Rows.OpenSpec.upto Rows.blockBackSpec).preRow enc Tryd.prog Tryd.f6 Rows.blockBackUptoRow.domain false Rows.blockBackUptoRow.laid) (((Rows.OpenSpec.upto Rows.blockBackSpec).at F).post enc Tryd.prog Tryd.f6 false true false false) := by
  obtain ⟨places, hx⟩ := reads os enc
  refine returnsInHanded_of_row (C := Tryd.checked) (s := Rows.OpenSpec.upto Rows.blockBackSpec) own started (by kernel_rfl) Tryd.func6
    (witness_row_at (enc := enc) (C := Tryd.checked) false (World.doorLaid Tryd.prog 21 os) #[.agg (List.replicate 64 (Value.int .u8 0) ++ [Value.int .u32 0, Value.int .u32 0, Value.int .u32 0, Value.slice none 0 0]).toArray, .slice none 0 0] rfl (by kernel_rfl) (by kernel_rfl) (by kernel_rfl)
      (OpenSpec.preRow_of_cond 8 hx (by kernel_rfl) (fun k hk => by cases hk; kernel_rfl) (by kernel_rfl) (laid_met os _))) ?_
  intro W base args ds gs before hval hW _ hcond _ hlaid _ _
  exact contract H enc W base args ds gs before hval hW (of_decide_eq_true (hcond _ rfl)) hlaid
theorem said : Rows.BlockBackUptoSaid :=
  OpenClaim.holds_of_cond 6 Tryd.f6 rfl rfl rfl rfl rfl rfl rfl ⟨rfl, rfl, rfl, rfl, rfl⟩ rfl rfl rfl rfl rfl (by kernel_rfl) Tryd.func6 (by kernel_rfl)
    (of_decide_eq_true (by kernel_rfl)) (by unfold Func.isWrapper; first | (rw [if_pos (by decide +kernel)]; kernel_rfl) | (rw [if_neg (by decide +kernel)]; exact ⟨rfl, rfl⟩))
    (fun os started H enc _ F => by rw [OpenClaim.pre_eq_preRow]; exact lifted os started H enc F)
theorem plain (f : FuncId) (fn : Func) (hf : Tryd.pinned.checked.prog.funcNamed "moneyer/moneyerlaw10.BlockBack" = some f) (hfn : Tryd.pinned.checked.prog.funcs[f]? = some fn) :
    true = Tryd.pinned.checked.prog.looks [] ∧ ∀ (j : Nat) t, fn.params[j]? = some t → Tryd.pinned.checked.prog.wantsStandIn t = false := by
  obtain rfl : f = 6 := Option.some.inj ((show Tryd.prog.funcNamed "moneyer/moneyerlaw10.BlockBack" = some 6 by kernel_rfl).symm.trans hf) |>.symm
  obtain rfl : fn = Tryd.f6 := (Option.some.inj (Tryd.func6.symm.trans hfn)).symm
  refine ⟨by kernel_rfl, fun j t ht => ?_⟩
  rw [Tryd.params6] at ht
  have hm := Array.mem_of_getElem? ht
  have h1 : Tryd.prog.wantsStandIn 36 = false := by kernel_rfl
  have h2 : Tryd.prog.wantsStandIn 28 = false := by kernel_rfl
  simp only [List.mem_toArray, List.mem_cons, List.not_mem_nil, or_false] at hm
  rcases hm with rfl | rfl
  · first | exact h1 | exact h2
  · first | exact h2 | exact h1
end lawBlockBack
/-- the card of BlockBack, second form -/
theorem blockBack_card : Rows.BlockBackUptoCardSaid :=
  Claim7.holds_tied_plain_at .later [] _ _ _ _ lawBlockBack.said (fun _ h => by cases h) (by kernel_rfl) (fun _ h => by cases h) blockBackUpto_row_tie rfl ⟨rfl, rfl⟩ (by kernel_rfl) rfl lawBlockBack.plain (by kernel_rfl)
#print axioms blockBack_card
end Go.Proofs.YtalainpmlonahaaDoor
