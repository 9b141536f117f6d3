/-
  CachePlays: for every input the law answers true, and each argument reads behind the call as it read before; no condition.
-/
import Derived.Test.YtgbiohhpdokofaaPlays
import Derived.Test.YtgbiohhpdokofaaKeepsR
-- HEAP
namespace Go.Proofs.Ytgbiohhpdokofaa
open Go.RowKit Go.ChangeShapes Go.WideShapes Go.ChangeAt

/-- a slice whose elements are read one by one: R is what is known of each -/
theorem sl_of_trodR {P : Program} {H : Type} {enc : TypeId × Value → H} {W : World} {base : Nat} {sp : Nat → Bool} {held : Bool} {t e size : Nat} {v : Value} {d : DataW H} {ps : List MemPlace} {R : List Value → Prop} (ht : P.underlying t = some (.slice e)) (hc : P.cellsOf e = size) (hpos : 0 < size)
    (hR : ∀ (n : Nat) (cs : List Value) (x : DataW H × List MemPlace), DataW.trod enc P W base sp held n e cs = some x → R cs) (hlen : ∀ cs, R cs → cs.length = size)
    (hv : ∃ a len cap, v = .slice a len cap) (h : DataW.Trod enc P W base sp held t v d ps) : ∃ ls : List (List Value), Sl W size v ls.length ls.flatten ∧ ∀ cs ∈ ls, R cs := by
  obtain ⟨a, len, cap, rfl⟩ := hv
  obtain ⟨fuel, hf⟩ := h
  rcases Deep.open_slice ht hf with ⟨h1, _⟩ | ⟨a', len', cap', m, n, D, Pl, h1, _, h2, h3, hm, _, hel⟩
  · simp only [Value.cells, List.cons.injEq, Value.slice.injEq, and_true] at h1
    obtain ⟨rfl, rfl, rfl⟩ := h1
    exact ⟨[], ⟨none, 0, rfl, by simp, Nat.le_refl _, Nat.zero_le _, Rd.nil_⟩, by simp⟩
  · simp only [Value.cells, List.cons.injEq, Value.slice.injEq, and_true] at h1
    obtain ⟨rfl, rfl, rfl⟩ := h1
    have hle : len ≤ m := by rw [hm]; split <;> omega
    rw [hc] at hel
    have key : ∀ k, k ≤ len → ∃ ls : List (List Value), ls.length = k ∧ ∀ i cs, ls[i]? = some cs → W.cells? base (a'.add (i * size)) size = some cs ∧ R cs := by
      intro k
      induction k with
      | zero => exact fun _ => ⟨[], rfl, by simp⟩
      | succ k ih =>
        intro hk'
        obtain ⟨ls, h4, h5⟩ := ih (by omega)
        obtain ⟨cs', h6, h7⟩ := hel k (by omega)
        refine ⟨ls ++ [cs'], by simp [h4], fun i cs hi => ?_⟩
        by_cases hik : i < k
        · rw [List.getElem?_append_left (by omega)] at hi; exact h5 i cs hi
        · rw [List.getElem?_append_right (by omega), h4] at hi
          have h0 := (List.getElem?_eq_some_iff.1 hi).1
          simp only [List.length_singleton] at h0
          obtain rfl : i = k := by omega
          simp at hi; subst hi
          exact ⟨h6, hR _ _ _ h7⟩
    obtain ⟨ls, h4, h5⟩ := key len (Nat.le_refl _)
    have hkv : ∀ cs ∈ ls, R cs := fun cs hcs => by
      obtain ⟨i, hi⟩ := List.mem_iff_getElem?.1 hcs
      exact (h5 i cs hi).2
    have hls : ∀ cs ∈ ls, cs.length = size := fun cs hcs => hlen cs (hkv cs hcs)
    refine ⟨ls, ⟨some a', cap, by rw [h4], flat_len hls, by omega, h3, fun hpos' => ?_⟩, hkv⟩
    rw [flat_len hls] at hpos'
    have hl0 : 0 < len := by
      rcases Nat.eq_zero_or_pos len with h0 | h0
      · rw [h4, h0, Nat.zero_mul] at hpos'; omega
      · exact h0
    have cell : ∀ i j, i < len → j < size → W.cell? (a'.add (i * size + j)) = ls.flatten[i * size + j]? := fun i j hi hj => by
      have hic : ls[i]? = some (ls[i]'(by omega)) := List.getElem?_eq_getElem (by omega)
      obtain ⟨_, _, h8⟩ := World.cells?_some (h5 i _ hic).1
      rw [flat_get hls hic hj, ← h8 j hj, Addr.add_add]
    have hsp : a'.spot = none := by
      have h8 := cell 0 0 hl0 hpos
      rw [Nat.zero_mul, Nat.add_zero, List.getElem?_eq_getElem (by rw [flat_len hls]; exact hpos')] at h8
      have := World.cell?_spot h8
      obtain ⟨b, o, s⟩ := a'
      cases s with
      | none => rfl
      | some s => simp [Addr.add] at this
    obtain ⟨b, o, s⟩ := a'
    simp only at hsp
    subst hsp
    refine ⟨b, o, rfl, fun j u hu => ?_⟩
    have hj : j < len * size := by
      have := (List.getElem?_eq_some_iff.1 hu).1
      rw [flat_len hls, h4] at this; exact this
    have e1 : j = j / size * size + j % size := by rw [Nat.mul_comm]; exact (Nat.div_add_mod j size).symm
    have h9 := cell (j / size) (j % size) (Nat.div_lt_of_lt_mul (by rw [Nat.mul_comm]; exact hj)) (Nat.mod_lt _ hpos)
    rw [← e1, hu, Addr.add_lit] at h9
    exact h9
theorem under_act : Try.prog.underlying Ta = some (.struct (Try.prog.fieldsOf Ta)) := by kernel_rfl
theorem act_of_trod {H : Type} {enc : TypeId × Value → H} {W : World} {base : Nat} {sp : Nat → Bool} {held : Bool} (n : Nat) (cs : List Value) (x : DataW H × List MemPlace) (h : DataW.trod enc Try.prog W base sp held n Ta cs = some x) : ActIs W cs := by
  cases n with
  | zero => simp [DataW.trod] at h
  | succ n =>
    unfold DataW.trod at h
    simp only [under_act] at h
    split at h
    · rename_i hl
      have hl4 : cs.length = 4 := hl.trans (by kernel_rfl)
      simp only [Option.map_eq_some_iff] at h
      obtain ⟨as', ha, _⟩ := h
      have hf : (Try.prog.fieldsOf Ta).toList.map (fun f => (f.type, f.offset, Try.prog.cellsOf f.type)) = [(3, 0, 1), (22, 1, 1), (3, 2, 1), (4, 3, 1)] := by kernel_rfl
      have key : ∀ ft off m, (ft, off, m) ∈ [(3, 0, 1), (22, 1, 1), (3, 2, 1), (4, 3, 1)] → ∃ y, DataW.trod enc Try.prog W base sp held n ft ((cs.drop off).take m) = some y := fun ft off m hm => by
        rw [← hf] at hm
        obtain ⟨f, hfm, e⟩ := List.mem_map.1 hm
        simp only [Prod.mk.injEq] at e
        obtain ⟨rfl, rfl, rfl⟩ := e
        exact mapM_of ha f hfm
      obtain ⟨c0, c1, c2, c3, rfl⟩ : ∃ c0 c1 c2 c3, cs = [c0, c1, c2, c3] := by
        match cs, hl4 with
        | [c0, c1, c2, c3], _ => exact ⟨c0, c1, c2, c3, rfl⟩
      obtain ⟨y0, e0⟩ := key 3 0 1 (by simp)
      obtain ⟨y1, e1⟩ := key 22 1 1 (by simp)
      obtain ⟨y2, e2⟩ := key 3 2 1 (by simp)
      obtain ⟨y3, e3⟩ := key 4 3 1 (by simp)
      simp only [List.drop_zero, List.drop_succ_cons, List.take_succ_cons, List.take_zero] at e0 e1 e2 e3
      obtain ⟨x, q0, _⟩ := DataW.trod_int Try.underlying3 e0
      obtain ⟨nn, q2, _⟩ := DataW.trod_int Try.underlying3 e2
      obtain ⟨ot, q3, _⟩ := DataW.trod_bool Try.underlying4 e3
      have hsl : ∃ a len cap, c1 = .slice a len cap := by
        rcases Deep.open_slice Try.underlying22 e1 with ⟨h1, _⟩ | ⟨a', len', cap', m, n, D, Pl, h1, _⟩
        · exact ⟨_, _, _, by simpa using h1⟩
        · exact ⟨_, _, _, by simpa using h1⟩
      have hce : c1.cells.toList = [c1] := by obtain ⟨a, l, c, rfl⟩ := hsl; rfl
      obtain ⟨ls, hs, hkv⟩ := sl_of_trod (size := 35) (d := y1.1) (ps := y1.2) Try.underlying22 (by kernel_rfl) (by decide) (by kernel_rfl) (fun cs h => held_len h) hsl ⟨n, by rw [hce]; exact e1⟩
      simp only [List.cons.injEq, and_true] at q0 q2 q3
      exact ⟨x, c1, nn, ot, ls, by rw [q0, q2, q3], ⟨hs, hkv⟩⟩
    · cases h
theorem asl_of_trod {H : Type} {enc : TypeId × Value → H} {W : World} {base : Nat} {sp : Nat → Bool} {held : Bool} {v : Value} {d : DataW H} {ps : List MemPlace} (hv : ∃ a len cap, v = .slice a len cap) (h : DataW.Trod enc Try.prog W base sp held 41 v d ps) : ∃ ac, ASl W v ac := by
  obtain ⟨ls, hs, hR⟩ := sl_of_trodR (size := 4) (R := ActIs W) Try.underlying41 (by kernel_rfl) (by decide) (fun n cs x h => act_of_trod n cs x h) (fun cs ⟨_, _, _, _, _, e, _⟩ => by rw [e]; rfl) hv h
  exact ⟨ls, hs, hR⟩
namespace lawPlays
theorem own : ownKnob Try.prog.godebug = none := by kernel_rfl
theorem laid : laidOutB Try.prog = true := by kernel_rfl
theorem rowed : mapsRowed Try.prog = true := by kernel_rfl
theorem voids : noVoid Try.prog = true := by kernel_rfl
theorem contract (H : Type) (enc : TypeId × Value → H) (W : World) (base : Nat) (args : Array Value) (ds gs : List (DataW H)) (before : List MemPlace)
    (hval : ∀ (j : Nat) t v, Try.f4.params[j]? = some t → args[j]? = some v → Value.okWide Try.prog W .any base t v)
    (hW : DataW.Whole enc Try.prog Try.f4.params.toList Rows.cachePlaysSpec.vars false W args.toList ds gs before) :
    Calls Try.prog 4 args W fun e W' => ∃ v, e = .returned v ∧ Rows.cachePlaysSpec.post enc Try.prog Try.f4 false true false false W args v W' := by
  have hW0 := hW
  obtain ⟨p, q, hA0, hV, rfl, hfz, hnd⟩ := hW
  have hA : DataW.TrodAll enc Try.prog W 0 (fun _ => true) true Try.f4.params.toList args.toList ds p := hA0
  rw [Try.params4] at hA hval
  obtain ⟨v0, vs0, d0, ds0, p0, q0, hargs, rfl, rfl, h0, r0⟩ := trodAll_cons hA
  obtain ⟨v1, vs1, d1, ds1, p1, q1, rfl, rfl, rfl, h1, r1⟩ := trodAll_cons r0
  obtain ⟨v2, vs2, d2, ds2, p2, q2, rfl, rfl, rfl, h2, r2⟩ := trodAll_cons r1
  obtain ⟨rfl, rfl, rfl⟩ := trodAll_nil r2
  obtain rfl : args = #[v0, v1, v2] := by cases args; simp_all
  obtain ⟨rfl, rfl⟩ := trodVars_none hV
  obtain ⟨n, rfl, rfl, rfl, wn⟩ := open_int Try.underlying3 (hval 0 3 v0 rfl rfl) h0
  obtain ⟨wh, rfl, rfl, rfl, wwh⟩ := open_int Try.underlying5 (hval 2 5 v2 rfl rfl) h2
  have hwh := bounds_u8 wwh
  obtain ⟨whn, rfl⟩ := Int.eq_ofNat_of_zero_le hwh.1
  have walk : Calls Try.prog 4 #[.int .i64 n, v1, .int .u8 (whn : Int)] W (Ret W no (fun _ : Unit => .bool true) (fun _ => []) (fun _ _ => True)) := by
    by_cases hn : n < 0 ∨ 256 < n
    · exact cache_plays_no n v1 whn W hn
    · obtain ⟨rm, rfl⟩ := Int.eq_ofNat_of_zero_le (show 0 ≤ n by omega)
      obtain ⟨ac, hac⟩ := asl_of_trod (okWide_slice Try.underlying41 (hval 1 41 v1 rfl rfl)) h1
      exact cache_plays rm (by omega) v1 ac whn (by omega) W hac
  refine walk.mono fun e W' ⟨_, he, hst, _⟩ => ?_
  subst he
  exact ⟨_, rfl, post_true hst laid rowed voids (by decide) rfl Try.underlying4 rfl hW0 rfl⟩
theorem reads (os : Os) {H : Type} (enc : TypeId × Value → H) : ∃ places, DataW.whole enc Try.prog ((World.holding Try.prog os ⟨#[], #[], []⟩).forCall (fun _ _ => 0) ⟨#[], #[.int .i64 0, .slice none 0 0, .int .u8 0], []⟩).memory Try.f4.params.toList Rows.cachePlaysSpec.vars false #[Value.int .i64 0, .slice none 0 0, .int .u8 0].toList 8 = some ([.lit (.int .i64 0), .nil, .lit (.int .u8 0)], [], places) :=
  ⟨[], by kernel_rfl⟩
set_option maxRecDepth 100000 in
theorem lifted (os : Os) (started : os.Started) (H : Type) (enc : TypeId × Value → H) (F : Stop.Interp) :
    ReturnsInHanded {} Try.checked os 4 .any ((OpenSpec.ofChange Rows.cachePlaysSpec).preRow enc Try.prog Try.f4 Rows.cachePlaysRow.domain false Rows.cachePlaysRow.laid) (((OpenSpec.ofChange Rows.cachePlaysSpec).at F).post enc Try.prog Try.f4 false true false false) := by
  obtain ⟨places, hx⟩ := reads os enc
  refine returnsInHanded_of_row (C := Try.checked) (s := OpenSpec.ofChange Rows.cachePlaysSpec) own started (by kernel_rfl) Try.func4
    (witness_row_at (enc := enc) (C := Try.checked) false (World.holding Try.prog os ⟨#[], #[], []⟩) #[.int .i64 0, .slice none 0 0, .int .u8 0] rfl (by kernel_rfl) (by kernel_rfl) (by kernel_rfl)
      (OpenSpec.preRow_of_cond 8 hx (by kernel_rfl) (fun k hk => by cases hk) (by kernel_rfl) ⟨[], rfl, List.nodup_nil, fun _ _ h => by cases h⟩)) ?_
  intro W base args ds gs before hval hW _ _ _ _ _ _
  exact contract H enc W base args ds gs before hval hW
end lawPlays
theorem cachePlays_said : Rows.CachePlaysSaid :=
  OpenClaim.holds_of_cond 4 Try.f4 rfl rfl rfl rfl rfl rfl rfl ⟨rfl, rfl, rfl, rfl, rfl⟩ rfl rfl rfl rfl rfl (by kernel_rfl) Try.func4 (by kernel_rfl)
    (of_decide_eq_true (by kernel_rfl)) (by unfold Func.isWrapper; first | (rw [if_pos (by decide +kernel)]; kernel_rfl) | (rw [if_neg (by decide +kernel)]; exact ⟨rfl, rfl⟩))
    (fun os started H enc _ F => by rw [OpenClaim.pre_eq_preRow]; exact lawPlays.lifted os started H enc F)
#print axioms cachePlays_said
end Go.Proofs.Ytgbiohhpdokofaa
