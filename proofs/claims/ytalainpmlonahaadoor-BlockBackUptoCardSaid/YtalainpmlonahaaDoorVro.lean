/-
  bytes among a row's arguments; what the bound gives; a witness's world. No law in sight.
-/
import Derived.Test.YtalainpmlonahaaDoorRows
import Derived.Test.YtalainpmlonahaaDoorMb
import Derived.Test.YtalainpmlonahaaDoorRow
import Derived.LaidMore
import Derived.LaidLaws
set_option linter.all false
set_option maxRecDepth 100000
set_option maxHeartbeats 4000000
namespace Go.Proofs.YtalainpmlonahaaDoor
open Go.RowKit Go.ChangeShapes Go.WideShapes Go.ChangeAt

theorem bulk_len {H : Type} : ∀ (l : List (DataW H)), l.length ≤ Rows.uptoBulkAll l
  | [] => Nat.le_refl _
  | d :: r => by
    have h1 : 1 ≤ Rows.uptoBulk d := by
      cases d with
      | lit l => cases l <;> simp [Rows.uptoBulk]
      | nil => simp [Rows.uptoBulk]
      | ptr d => simp [Rows.uptoBulk]
      | slice elems spare => simp [Rows.uptoBulk]
      | agg parts => simp [Rows.uptoBulk]
      | iface t d => simp [Rows.uptoBulk]
      | map entries => simp [Rows.uptoBulk]
      | held h => simp [Rows.uptoBulk]
    have h2 := bulk_len r
    simp only [Rows.uptoBulkAll, List.length_cons]; omega
theorem bulk_part {H : Type} {d : DataW H} : ∀ {l : List (DataW H)}, d ∈ l → Rows.uptoBulk d ≤ Rows.uptoBulkAll l
  | [], h => by cases h
  | x :: r, h => by
    simp only [Rows.uptoBulkAll]
    rcases List.mem_cons.1 h with rfl | h
    · omega
    · have := bulk_part h; omega
/-- an argument of bytes -/
theorem open_bytes {P : Program} {H : Type} {enc : TypeId × Value → H} {W : World} {base b0 : Nat} {r : Reach} {held : Bool} {t e : TypeId} {v : Value} {d : DataW H} {ps : List MemPlace} (ht : P.underlying t = some (.slice e)) (he : P.underlying e = some (.int .u8)) (hc : P.cellsOf e = 1)
    (hval : Value.okWide P W r b0 t v) (h : DataW.Trod enc P W base (fun _ => true) held t v d ps) : ∃ A c, ∃ l : List UInt8, v = .slice A l.length c ∧ Slr W RB (.slice A l.length c) l ∧ l.length ≤ Rows.uptoBulk d := by
  obtain ⟨a, len, cap, rfl⟩ := okWide_slice ht hval
  obtain ⟨fuel, hf⟩ := h
  rcases open_ints ht he hc hf with ⟨h1, h2⟩ | ⟨a', len', cap', zs, h1, hb, h2, h3, h4, h5, h6, h7⟩
  · simp only [Value.cells, List.cons.injEq, Value.slice.injEq, and_true] at h1
    obtain ⟨rfl, rfl, rfl⟩ := h1
    exact ⟨none, 0, [], rfl, ⟨none, 0, rfl, by simp [Rep.all], Nat.le_refl _, by decide, fun h => absurd h (by simp [Rep.all])⟩, Nat.zero_le _⟩
  · simp only [Value.cells, List.cons.injEq, Value.slice.injEq, and_true] at h1
    obtain ⟨rfl, rfl, rfl⟩ := h1
    simp only [if_true] at h4
    have hl : ((zs.take len).map u8).length = len := by simp; omega
    have hd : len ≤ Rows.uptoBulk d := by
      have e : d = .slice (lits .u8 (zs.take len)) (lits .u8 (zs.drop len)) := by simpa using congrArg Prod.fst h5
      have h8 := bulk_len (lits (H := H) .u8 (zs.take len))
      have h9 : (lits (H := H) .u8 (zs.take len)).length = len := by simp [lits]; omega
      rw [e]; simp only [Rows.uptoBulk]; omega
    refine ⟨some a', cap, (zs.take len).map u8, by rw [hl], ⟨some a', cap, by rw [hl], by rw [Rep.len], by omega, h3, fun hpos => ?_⟩, by omega⟩
    rw [Rep.len, hl] at hpos
    have hlen : 0 < len := Nat.pos_of_ne_zero fun e0 => by subst e0; simp at hpos
    have cell : ∀ i, i < len → W.cell? (a'.add i) = some (.int .u8 ((u8 (zs.getD i 0)).toNat : Int)) := fun i hi => by
      rw [h6 i (by omega)]
      have hm : zs.getD i 0 ∈ zs := by
        rw [List.getD_eq_getElem?_getD, List.getElem?_eq_getElem (by omega)]; exact List.getElem_mem _
      have hw := h7 _ hm
      have hr : ∀ z : Int, (Lit.int .u8 z).wf = true → 0 ≤ z ∧ z ≤ 255 := fun z hw => by
        simp [Lit.wf, IntKind.min, IntKind.max, IntKind.signed, IntKind.bits] at hw; omega
      rw [← u8_wrap, wu8 (hr _ hw)]
    obtain ⟨blk, off, spot⟩ := a'
    have hsp : spot = none := World.cell?_spot (cell 0 hlen)
    subst hsp
    refine ⟨blk, off, rfl, fun j u hj => ?_⟩
    have hj2 : j < len := by
      have := (List.getElem?_eq_some_iff.1 hj).1
      have es : RB.sz = 1 := rfl
      rw [Rep.len, hl, es, Nat.mul_one] at this; exact this
    have hji : j < ((zs.take len).map u8).length := by omega
    have h8 := Rep.at_ (R := RB) hji (at1_ok (RB.ok _).1 (show at1 (RB.sg _) 0 = some (.int .u8 ((((zs.take len).map u8)[j]).toNat : Int)) from rfl))
    have es : RB.sz = 1 := rfl
    rw [es, Nat.mul_one, Nat.add_zero] at h8
    rw [h8] at hj
    cases hj
    have h9 := cell j hj2
    rw [Addr.add_lit] at h9
    rw [h9]
    congr 3
    simp [List.getD_eq_getElem?_getD, List.getElem?_eq_getElem (show j < zs.length by omega)]
end Go.Proofs.YtalainpmlonahaaDoor
