/-
  What is put is got, and what is got is put as the same bytes: where what it reads is of bulk at most 1048576.
-/
import Derived.Test.YtdbikdbogpofbaaDoorVback
import Derived.Test.YtdbikdbogpofbaaDoorVbackP
import Derived.Test.YtdbikdbogpofbaaDoorVtxo
set_option linter.all false
set_option maxRecDepth 100000
set_option maxHeartbeats 4000000
namespace Go.Proofs.YtdbikdbogpofbaaDoor
open Go.RowKit Go.ChangeShapes Go.WideShapes Go.ChangeAt
theorem backA : BackA := fun ins outs after ahead behind hm n1 n2 ha => by
  have e : txL ins outs after = txB ins outs after := if_pos hm
  rw [e]
  exact tx_back hm n1 n2 ha (At.here _ _ _)
theorem backB : BackB := fun l z => by
  obtain ⟨hA, hX, h⟩ := tx_forth z
  refine ⟨hX.2, hA, fun gi go h1 h2 => ?_⟩
  obtain ⟨a, b, c⟩ := h h1 h2
  refine ⟨a, ?_⟩
  have e : txL gi go (tgA l 0) = txB gi go (tgA l 0) := if_pos a
  rw [e, c]
  have := b.zero
  rw [this]; simp
theorem txBack_in {H : Type} {enc : TypeId × Value → H} {w : World} (t : TxG) (ht : t.P w) (hb : t.wt ≤ 1048576) : (t.ins.length ≤ 1048576 ∧ t.outs.length ≤ 1048576 ∧ sumI t.ins ≤ 1048576 ∧ sumO t.outs ≤ 1048576) := by
  have h1 := sum_succ (f := fun g : InG => g.ul.length) t.ins
  have h2 := sum_succ (f := fun g : OutG => g.lock.length) t.outs
  simp only [TxG.wt] at hb
  simp only [sumI, sumO]; omega
namespace lawTxBack
theorem own : ownKnob Tryd.prog.godebug = none := by kernel_rfl
theorem laid : laidOutB Tryd.prog = true := by kernel_rfl
theorem rowed : mapsRowed Tryd.prog = true := by kernel_rfl
theorem voids : noVoid Tryd.prog = true := by kernel_rfl
theorem contract (H : Type) (enc : TypeId × Value → H) (W : World) (base : Nat) (args : Array Value) (ds gs : List (DataW H)) (before : List MemPlace)
    (hval : ∀ (j : Nat) t v, Tryd.f7.params[j]? = some t → args[j]? = some v → Value.okWide Tryd.prog W .any base t v)
    (hW : DataW.Whole enc Tryd.prog Tryd.f7.params.toList Rows.txBackSpec.vars false W args.toList ds gs before) (hsmall : Rows.uptoBulkAll (ds ++ gs) ≤ 1048576) :
    Calls Tryd.prog 7 args W fun e W' => ∃ v, e = .returned v ∧ Rows.txBackSpec.post enc Tryd.prog Tryd.f7 false true false false W args v W' := by
  have hW0 := hW
  obtain ⟨p, q, hA0, hV, rfl, hfz, hnd⟩ := hW
  have hA : DataW.TrodAll enc Tryd.prog W 0 (fun _ => true) true Tryd.f7.params.toList args.toList ds p := hA0
  rw [Tryd.params7] at hA hval
  obtain ⟨v0, vs0, d0, ds0, p0, q0, hargs, rfl, rfl, h0, r0⟩ := trodAll_cons hA
  obtain ⟨v1, vs1, d1, ds1, p1, q1, rfl, rfl, rfl, h1, r1⟩ := trodAll_cons r0
  obtain ⟨v2, vs2, d2, ds2, p2, q2, rfl, rfl, rfl, h2, r2⟩ := trodAll_cons r1
  obtain ⟨v3, vs3, d3, ds3, p3, q3, rfl, rfl, rfl, h3, r3⟩ := trodAll_cons r2
  obtain ⟨rfl, rfl, rfl⟩ := trodAll_nil r3
  obtain rfl : args = #[v0, v1, v2, v3] := by cases args; simp_all
  obtain ⟨rfl, rfl⟩ := trodVars_none hV
  obtain ⟨t, rfl, ht, bt⟩ := (op_tx (enc := enc) (w := W)).agg Tryd.underlying27 (hval 0 27 v0 rfl rfl) h0
  obtain ⟨aheadA, aheadc, ahead, rfl, hahead, bahead⟩ := open_bytes Tryd.underlying22 Tryd.underlying5 (by kernel_rfl) (hval 1 22 v1 rfl rfl) h1
  obtain ⟨behindA, behindc, behind, rfl, hbehind, bbehind⟩ := open_bytes Tryd.underlying22 Tryd.underlying5 (by kernel_rfl) (hval 2 22 v2 rfl rfl) h2
  obtain ⟨anyA, anyc, any, rfl, hany, bany⟩ := open_bytes Tryd.underlying22 Tryd.underlying5 (by kernel_rfl) (hval 3 22 v3 rfl rfl) h3
  simp only [List.append_nil, Rows.uptoBulkAll] at hsmall
  refine (txBack_ok _ _ _ _ _ _ _ _ _ _ _ _ _ _ _ _ W ht.i ht.ip ht.o ht.op hahead hbehind hany ⟨backA, backB, txBack_in (enc := enc) t ht (by omega), ht.a, ht.ip.n, ht.op.n, by omega, by omega, by omega⟩).mono fun e W' ⟨rr, he, hst, hr⟩ => ?_
  subst he
  first | exact ⟨_, rfl, post_true hst laid rowed voids (by decide) rfl Tryd.underlying4 rfl hW0 rfl⟩ | (have hr' : rr = true := hr; subst hr'; exact ⟨_, rfl, post_true hst laid rowed voids (by decide) rfl Tryd.underlying4 rfl hW0 rfl⟩)
theorem laid_met (os : Os) (args : Array Value) : laidMet Tryd.prog Rows.txBackUptoRow.laid ((World.doorLaid Tryd.prog 14 os).forCall (fun _ _ => 0) ⟨#[], args, []⟩).memory :=
  laidMet_of_run' 8 (by kernel_rfl) (by kernel_rfl)
theorem reads (os : Os) {H : Type} (enc : TypeId × Value → H) : ∃ places, DataW.whole enc Tryd.prog ((World.doorLaid Tryd.prog 14 os).forCall (fun _ _ => 0) ⟨#[], #[.agg #[.slice none 0 0, .slice none 0 0, .int .u32 0], .slice none 0 0, .slice none 0 0, .slice none 0 0], []⟩).memory Tryd.f7.params.toList Rows.txBackSpec.vars false (#[.agg #[.slice none 0 0, .slice none 0 0, .int .u32 0], .slice none 0 0, .slice none 0 0, .slice none 0 0] : Array Value).toList 8 = some ([.agg [.nil, .nil, .lit (.int .u32 0)], .nil, .nil, .nil], [], places) :=
  ⟨[], by kernel_rfl⟩
theorem lifted (os : Os) (started : os.Started) (H : Type) (enc : TypeId × Value → H) (F : Stop.Interp) :
    ReturnsInHanded {} Tryd.checked os 7 .any ((Rows.OpenSpec.upto Rows.txBackSpec).preRow enc Tryd.prog Tryd.f7 Rows.txBackUptoRow.domain false Rows.txBackUptoRow.laid) (((Rows.OpenSpec.upto Rows.txBackSpec).at F).post enc Tryd.prog Tryd.f7 false true false false) := by
  obtain ⟨places, hx⟩ := reads os enc
  refine returnsInHanded_of_row (C := Tryd.checked) (s := Rows.OpenSpec.upto Rows.txBackSpec) own started (by kernel_rfl) Tryd.func7
    (witness_row_at (enc := enc) (C := Tryd.checked) false (World.doorLaid Tryd.prog 14 os) #[.agg #[.slice none 0 0, .slice none 0 0, .int .u32 0], .slice none 0 0, .slice none 0 0, .slice none 0 0] rfl (by kernel_rfl) (by kernel_rfl) (by kernel_rfl)
      (OpenSpec.preRow_of_cond 8 hx (by kernel_rfl) (fun k hk => by cases hk; kernel_rfl) (by kernel_rfl) (laid_met os _))) ?_
  intro W base args ds gs before hval hW _ hcond _ _ _ _
  exact contract H enc W base args ds gs before hval hW (of_decide_eq_true (hcond _ rfl))
theorem said : Rows.TxBackUptoSaid :=
  OpenClaim.holds_of_cond 7 Tryd.f7 rfl rfl rfl rfl rfl rfl rfl ⟨rfl, rfl, rfl, rfl, rfl⟩ rfl rfl rfl rfl rfl (by kernel_rfl) Tryd.func7 (by kernel_rfl)
    (of_decide_eq_true (by kernel_rfl)) (by unfold Func.isWrapper; first | (rw [if_pos (by decide +kernel)]; kernel_rfl) | (rw [if_neg (by decide +kernel)]; exact ⟨rfl, rfl⟩))
    (fun os started H enc _ F => by rw [OpenClaim.pre_eq_preRow]; exact lifted os started H enc F)
theorem plain (f : FuncId) (fn : Func) (hf : Tryd.pinned.checked.prog.funcNamed "moneyer/moneyerlaw07.TxBack" = some f) (hfn : Tryd.pinned.checked.prog.funcs[f]? = some fn) :
    false = Tryd.pinned.checked.prog.looks [] ∧ ∀ (j : Nat) t, fn.params[j]? = some t → Tryd.pinned.checked.prog.wantsStandIn t = false := by
  obtain rfl : f = 7 := Option.some.inj ((show Tryd.prog.funcNamed "moneyer/moneyerlaw07.TxBack" = some 7 by kernel_rfl).symm.trans hf) |>.symm
  obtain rfl : fn = Tryd.f7 := (Option.some.inj (Tryd.func7.symm.trans hfn)).symm
  refine ⟨by kernel_rfl, fun j t ht => ?_⟩
  rw [Tryd.params7] at ht
  have hm := Array.mem_of_getElem? ht
  have h1 : Tryd.prog.wantsStandIn 27 = false := by kernel_rfl
  have h2 : Tryd.prog.wantsStandIn 22 = false := by kernel_rfl
  simp only [List.mem_toArray, List.mem_cons, List.not_mem_nil, or_false] at hm
  rcases hm with rfl | rfl | rfl | rfl
  · first | exact h1 | exact h2
  · first | exact h2 | exact h1
  · first | exact h2 | exact h1
  · first | exact h2 | exact h1
end lawTxBack
/-- the card of TxBack, second form -/
theorem txBack_card : Rows.TxBackUptoCardSaid :=
  Claim7.holds_tied_plain_at .later [] _ _ _ _ lawTxBack.said (fun _ h => by cases h) (by kernel_rfl) (fun _ h => by cases h) txBackUpto_row_tie rfl ⟨rfl, rfl⟩ (by kernel_rfl) rfl lawTxBack.plain (by kernel_rfl)
#print axioms txBack_card
end Go.Proofs.YtdbikdbogpofbaaDoor
