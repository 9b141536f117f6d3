/-
  CacheKeeps: for every input the law answers true, and each argument reads behind the call as it read before; no condition.
-/
import Derived.Test.YtgbiohhpdokofaaRows
import Derived.Test.YtgbiohhpdokofaaKeeps
import Derived.Test.YtgbiohhpdokofaaRow
import Derived.Deep.Slices
-- HEAP
namespace Go.Proofs.Ytgbiohhpdokofaa
open Go.RowKit Go.ChangeShapes Go.WideShapes Go.ChangeAt

/-- a slice of values without pointers, as it is read -/
theorem sl_of_trod {P : Program} {H : Type} {enc : TypeId × Value → H} {W : World} {base : Nat} {sp : Nat → Bool} {held : Bool} {t e size : Nat} {v : Value} {d : DataW H} {ps : List MemPlace} (ht : P.underlying t = some (.slice e)) (hc : P.cellsOf e = size) (hpos : 0 < size) (hk : P.keyTypeAt 10 e = true) (hlen : ∀ cs, KV P e cs → cs.length = size)
    (hv : ∃ a len cap, v = .slice a len cap) (h : DataW.Trod enc P W base sp held t v d ps) : ∃ ls : List (List Value), Sl W size v ls.length ls.flatten ∧ ∀ cs ∈ ls, KV P e cs := by
  obtain ⟨a, len, cap, rfl⟩ := hv
  obtain ⟨fuel, hf⟩ := h
  rcases Deep.open_slice ht hf with ⟨h1, _⟩ | ⟨a', len', cap', m, n, D, Pl, h1, _, h2, h3, hm, _, hel⟩
  · simp only [Value.cells, List.cons.injEq, Value.slice.injEq, and_true] at h1
    obtain ⟨rfl, rfl, rfl⟩ := h1
    exact ⟨[], ⟨none, 0, rfl, by simp, Nat.le_refl _, Nat.zero_le _, Rd.nil_⟩, by simp⟩
  · simp only [Value.cells, List.cons.injEq, Value.slice.injEq, and_true] at h1
    obtain ⟨rfl, rfl, rfl⟩ := h1
    have hle : len ≤ m := by rw [hm]; split <;> omega
    rw [hc] at hel
    have key : ∀ k, k ≤ len → ∃ ls : List (List Value), ls.length = k ∧ ∀ i cs, ls[i]? = some cs → W.cells? base (a'.add (i * size)) size = some cs ∧ KV P e cs := by
      intro k
      induction k with
      | zero => exact fun _ => ⟨[], rfl, by simp⟩
      | succ k ih =>
        intro hk'
        obtain ⟨ls, h4, h5⟩ := ih (by omega)
        obtain ⟨cs', h6, h7⟩ := hel k (by omega)
        refine ⟨ls ++ [cs'], by simp [h4], fun i cs hi => ?_⟩
        by_cases hik : i < k
        · rw [List.getElem?_append_left (by omega)] at hi; exact h5 i cs hi
        · rw [List.getElem?_append_right (by omega), h4] at hi
          have h0 := (List.getElem?_eq_some_iff.1 hi).1
          simp only [List.length_singleton] at h0
          obtain rfl : i = k := by omega
          simp at hi; subst hi
          exact ⟨h6, kv_of_trod 10 hk h7⟩
    obtain ⟨ls, h4, h5⟩ := key len (Nat.le_refl _)
    have hkv : ∀ cs ∈ ls, KV P e cs := fun cs hcs => by
      obtain ⟨i, hi⟩ := List.mem_iff_getElem?.1 hcs
      exact (h5 i cs hi).2
    have hls : ∀ cs ∈ ls, cs.length = size := fun cs hcs => hlen cs (hkv cs hcs)
    refine ⟨ls, ⟨some a', cap, by rw [h4], flat_len hls, by omega, h3, fun hpos' => ?_⟩, hkv⟩
    rw [flat_len hls] at hpos'
    have hl0 : 0 < len := by
      rcases Nat.eq_zero_or_pos len with h0 | h0
      · rw [h4, h0, Nat.zero_mul] at hpos'; omega
      · exact h0
    have cell : ∀ i j, i < len → j < size → W.cell? (a'.add (i * size + j)) = ls.flatten[i * size + j]? := fun i j hi hj => by
      have hic : ls[i]? = some (ls[i]'(by omega)) := List.getElem?_eq_getElem (by omega)
      obtain ⟨_, _, h8⟩ := World.cells?_some (h5 i _ hic).1
      rw [flat_get hls hic hj, ← h8 j hj, Addr.add_add]
    have hsp : a'.spot = none := by
      have h8 := cell 0 0 hl0 hpos
      rw [Nat.zero_mul, Nat.add_zero, List.getElem?_eq_getElem (by rw [flat_len hls]; exact hpos')] at h8
      have := World.cell?_spot h8
      obtain ⟨b, o, s⟩ := a'
      cases s with
      | none => rfl
      | some s => simp [Addr.add] at this
    obtain ⟨b, o, s⟩ := a'
    simp only at hsp
    subst hsp
    refine ⟨b, o, rfl, fun j u hu => ?_⟩
    have hj : j < len * size := by
      have := (List.getElem?_eq_some_iff.1 hu).1
      rw [flat_len hls, h4] at this; exact this
    have e1 : j = j / size * size + j % size := by rw [Nat.mul_comm]; exact (Nat.div_add_mod j size).symm
    have h9 := cell (j / size) (j % size) (Nat.div_lt_of_lt_mul (by rw [Nat.mul_comm]; exact hj)) (Nat.mod_lt _ hpos)
    rw [← e1, hu, Addr.add_lit] at h9
    exact h9
namespace lawKeeps
theorem own : ownKnob Try.prog.godebug = none := by kernel_rfl
theorem laid : laidOutB Try.prog = true := by kernel_rfl
theorem rowed : mapsRowed Try.prog = true := by kernel_rfl
theorem voids : noVoid Try.prog = true := by kernel_rfl
theorem contract (H : Type) (enc : TypeId × Value → H) (W : World) (base : Nat) (args : Array Value) (ds gs : List (DataW H)) (before : List MemPlace)
    (hval : ∀ (j : Nat) t v, Try.f3.params[j]? = some t → args[j]? = some v → Value.okWide Try.prog W .any base t v)
    (hW : DataW.Whole enc Try.prog Try.f3.params.toList Rows.cacheKeepsSpec.vars false W args.toList ds gs before) :
    Calls Try.prog 3 args W fun e W' => ∃ v, e = .returned v ∧ Rows.cacheKeepsSpec.post enc Try.prog Try.f3 false true false false W args v W' := by
  have hW0 := hW
  obtain ⟨p, q, hA0, hV, rfl, hfz, hnd⟩ := hW
  have hA : DataW.TrodAll enc Try.prog W 0 (fun _ => true) true Try.f3.params.toList args.toList ds p := hA0
  rw [Try.params3] at hA hval
  obtain ⟨v0, vs0, d0, ds0, p0, q0, hargs, rfl, rfl, h0, r0⟩ := trodAll_cons hA
  obtain ⟨v1, vs1, d1, ds1, p1, q1, rfl, rfl, rfl, h1, r1⟩ := trodAll_cons r0
  obtain ⟨rfl, rfl, rfl⟩ := trodAll_nil r1
  obtain rfl : args = #[v0, v1] := by cases args; simp_all
  obtain ⟨rfl, rfl⟩ := trodVars_none hV
  obtain ⟨n, rfl, rfl, rfl, wn⟩ := open_int Try.underlying5 (hval 0 5 v0 rfl rfl) h0
  have hn := bounds_u8 wn
  obtain ⟨ls, hs, hkv⟩ := sl_of_trod (size := 35) Try.underlying22 (by kernel_rfl) (by decide) (by kernel_rfl) (fun cs h => held_len h) (okWide_slice Try.underlying22 (hval 1 22 v1 rfl rfl)) h1
  obtain ⟨rm, rfl⟩ := Int.eq_ofNat_of_zero_le hn.1
  refine (cache_keeps rm (by omega) v1 ls W ⟨hs, hkv⟩).mono fun e W' ⟨_, he, hst, _⟩ => ?_
  subst he
  exact ⟨_, rfl, post_true hst laid rowed voids (by decide) rfl Try.underlying4 rfl hW0 rfl⟩
theorem reads (os : Os) {H : Type} (enc : TypeId × Value → H) : ∃ places, DataW.whole enc Try.prog ((World.holding Try.prog os ⟨#[], #[], []⟩).forCall (fun _ _ => 0) ⟨#[], #[.int .u8 0, .slice none 0 0], []⟩).memory Try.f3.params.toList Rows.cacheKeepsSpec.vars false #[Value.int .u8 0, .slice none 0 0].toList 8 = some ([.lit (.int .u8 0), .nil], [], places) :=
  ⟨[], by kernel_rfl⟩
set_option maxRecDepth 100000 in
theorem lifted (os : Os) (started : os.Started) (H : Type) (enc : TypeId × Value → H) (F : Stop.Interp) :
    ReturnsInHanded {} Try.checked os 3 .any ((OpenSpec.ofChange Rows.cacheKeepsSpec).preRow enc Try.prog Try.f3 Rows.cacheKeepsRow.domain false Rows.cacheKeepsRow.laid) (((OpenSpec.ofChange Rows.cacheKeepsSpec).at F).post enc Try.prog Try.f3 false true false false) := by
  obtain ⟨places, hx⟩ := reads os enc
  refine returnsInHanded_of_row (C := Try.checked) (s := OpenSpec.ofChange Rows.cacheKeepsSpec) own started (by kernel_rfl) Try.func3
    (witness_row_at (enc := enc) (C := Try.checked) false (World.holding Try.prog os ⟨#[], #[], []⟩) #[.int .u8 0, .slice none 0 0] rfl (by kernel_rfl) (by kernel_rfl) (by kernel_rfl)
      (OpenSpec.preRow_of_cond 8 hx (by kernel_rfl) (fun k hk => by cases hk) (by kernel_rfl) ⟨[], rfl, List.nodup_nil, fun _ _ h => by cases h⟩)) ?_
  intro W base args ds gs before hval hW _ _ _ _ _ _
  exact contract H enc W base args ds gs before hval hW
end lawKeeps
theorem cacheKeeps_said : Rows.CacheKeepsSaid :=
  OpenClaim.holds_of_cond 3 Try.f3 rfl rfl rfl rfl rfl rfl rfl ⟨rfl, rfl, rfl, rfl, rfl⟩ rfl rfl rfl rfl rfl (by kernel_rfl) Try.func3 (by kernel_rfl)
    (of_decide_eq_true (by kernel_rfl)) (by unfold Func.isWrapper; first | (rw [if_pos (by decide +kernel)]; kernel_rfl) | (rw [if_neg (by decide +kernel)]; exact ⟨rfl, rfl⟩))
    (fun os started H enc _ F => by rw [OpenClaim.pre_eq_preRow]; exact lawKeeps.lifted os started H enc F)
#print axioms cacheKeeps_said
end Go.Proofs.Ytgbiohhpdokofaa
