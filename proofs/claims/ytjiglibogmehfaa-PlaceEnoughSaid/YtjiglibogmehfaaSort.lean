/-
  slices.SortFunc at places: laid (the shelf's own text), and what it answers.
-/
import Derived.Test.YtjiglibogmehfaaPa
import Derived.Shelf.SlSortCmp.NoneTotal
set_option linter.all false
set_option maxRecDepth 100000
namespace Go.Proofs.Ytjiglibogmehfaa
open Go.RowKit Go.Sort
def sort_ren : Go.Shelf.Ren := ⟨fun | 6 => 41 | 15 => 47 | 14 => 46 | 28 => 58 | 29 => 38 | 20 => 50 | 21 => 51 | 22 => 52 | 23 => 53 | 24 => 54 | 25 => 55 | 26 => 56 | 27 => 57 | 46 => 59 | 47 => 60 | 48 => 61 | 49 => 62 | 50 => 63 | 57 => 64 | n => n, fun | 22 => 24 | 24 => 32 | 25 => 53 | 3 => 3 | 39 => 56 | 0 => 0 | 53 => 42 | 55 => 22 | 4 => 4 | 46 => 67 | 45 => 66 | 50 => 71 | 5 => 5 | 9 => 9 | 66 => 74 | 70 => 78 | 76 => 80 | 77 => 81 | n => n, fun | n => n⟩
theorem sort_lays : Go.Proofs.SlLaysF0.n6 Try.prog sort_ren := {
  mixed := by kernel_rfl,
  f6 := ⟨Try.f41.name, by decide, Try.func41.trans (congrArg some (by kernel_rfl))⟩,
  f14 := ⟨Try.f46.name, by decide, Try.func46.trans (congrArg some (by kernel_rfl))⟩,
  f15 := Try.func47.trans (congrArg some (by kernel_rfl)),
  f20 := ⟨Try.f50.name, by decide, Try.func50.trans (congrArg some (by kernel_rfl))⟩,
  f21 := ⟨Try.f51.name, by decide, Try.func51.trans (congrArg some (by kernel_rfl))⟩,
  f22 := ⟨Try.f52.name, by decide, Try.func52.trans (congrArg some (by kernel_rfl))⟩,
  f23 := ⟨Try.f53.name, by decide, Try.func53.trans (congrArg some (by kernel_rfl))⟩,
  f24 := ⟨Try.f54.name, by decide, Try.func54.trans (congrArg some (by kernel_rfl))⟩,
  f25 := ⟨Try.f55.name, by decide, Try.func55.trans (congrArg some (by kernel_rfl))⟩,
  f26 := ⟨Try.f56.name, by decide, Try.func56.trans (congrArg some (by kernel_rfl))⟩,
  f27 := ⟨Try.f57.name, by decide, Try.func57.trans (congrArg some (by kernel_rfl))⟩,
  f28 := Try.func58.trans (congrArg some (by kernel_rfl)),
  f29 := Try.func38.trans (congrArg some (by kernel_rfl)),
  f46 := ⟨Try.f59.name, by decide, Try.func59.trans (congrArg some (by kernel_rfl))⟩,
  f47 := Try.func60.trans (congrArg some (by kernel_rfl)),
  f48 := Try.func61.trans (congrArg some (by kernel_rfl)),
  f49 := ⟨Try.f62.name, by decide, Try.func62.trans (congrArg some (by kernel_rfl))⟩,
  f50 := ⟨Try.f63.name, by decide, Try.func63.trans (congrArg some (by kernel_rfl))⟩,
  f57 := ⟨Try.f64.name, by decide, Try.func64.trans (congrArg some (by kernel_rfl))⟩,
  t0 := Try.underlying0,
  a0 := Try.isAgg0,
  z0 := Try.sizeOf0,
  v0 := Try.zeroValue0,
  t3 := Try.underlying3,
  a3 := Try.isAgg3,
  z3 := Try.sizeOf3,
  v3 := Try.zeroValue3,
  t4 := Try.underlying4,
  a4 := Try.isAgg4,
  z4 := Try.sizeOf4,
  v4 := Try.zeroValue4,
  t5 := Try.underlying5,
  a5 := Try.isAgg5,
  z5 := Try.sizeOf5,
  v5 := Try.zeroValue5,
  t9 := Try.underlying9,
  a9 := Try.isAgg9,
  z9 := Try.sizeOf9,
  v9 := Try.zeroValue9,
  t22 := Try.underlying24,
  a22 := Try.isAgg24,
  z22 := Try.sizeOf24,
  v22 := Try.zeroValue24,
  t25 := Try.underlying53,
  a25 := Try.isAgg53,
  z25 := Try.sizeOf53,
  v25 := Try.zeroValue53,
  t39 := Try.underlying56,
  a39 := Try.isAgg56,
  z39 := Try.sizeOf56,
  v39 := Try.zeroValue56,
  t45 := Try.underlying66,
  a45 := Try.isAgg66,
  z45 := Try.sizeOf66,
  v45 := Try.zeroValue66,
  t46 := Try.underlying67,
  a46 := Try.isAgg67,
  z46 := Try.sizeOf67,
  v46 := Try.zeroValue67,
  t50 := Try.underlying71,
  a50 := Try.isAgg71,
  z50 := Try.sizeOf71,
  v50 := Try.zeroValue71,
  t53 := Try.underlying42,
  a53 := Try.isAgg42,
  z53 := Try.sizeOf42,
  v53 := Try.zeroValue42,
  t55 := Try.underlying22,
  a55 := Try.isAgg22,
  z55 := Try.sizeOf22,
  v55 := Try.zeroValue22,
  t66 := Try.underlying74,
  a66 := Try.isAgg74,
  z66 := Try.sizeOf74,
  v66 := Try.zeroValue74,
  t70 := Try.underlying78,
  a70 := Try.isAgg78,
  z70 := Try.sizeOf78,
  v70 := Try.zeroValue78,
  t76 := Try.underlying80,
  a76 := Try.isAgg80,
  z76 := Try.sizeOf80,
  v76 := Try.zeroValue80,
  t77 := Try.underlying81,
  a77 := Try.isAgg81,
  z77 := Try.sizeOf81,
  v77 := Try.zeroValue81 }

/-! the order of places -/
theorem cmpP_neg (x y : PlG) : cmpP x y < 0 ↔ x.row < y.row ∨ x.row = y.row ∧ x.at_ < y.at_ := by
  unfold cmpP cmpI; grind
theorem ltP (x y : PlG) : Go.Proofs.ltOf cmpP x y = decide (x.row < y.row ∨ x.row = y.row ∧ x.at_ < y.at_) := by
  unfold Go.Proofs.ltOf; rw [decide_eq_decide]; exact cmpP_neg x y
theorem swoP : SWO (Go.Proofs.ltOf cmpP) where
  irrefl x := by rw [ltP]; simp
  trans x y z h1 h2 := by rw [ltP] at *; simp only [decide_eq_true_eq] at *; omega
  ntrans x y z h1 h2 := by rw [ltP] at *; simp only [decide_eq_false_iff_not] at *; omega
theorem totP (x y : PlG) (h1 : Go.Proofs.ltOf cmpP x y = false) (h2 : Go.Proofs.ltOf cmpP y x = false) : x = y := by
  rw [ltP] at *
  simp only [decide_eq_false_iff_not] at *
  cases x; cases y
  simp only [PlG.mk.injEq]; simp only at h1 h2; omega
def sortP (l : List PlG) : List PlG := l.mergeSort fun x y => !(Go.Proofs.ltOf cmpP) y x
theorem sortP_perm (l : List PlG) : (sortP l).Perm l := List.mergeSort_perm _ _
theorem sortP_len (l : List PlG) : (sortP l).length = l.length := (sortP_perm l).length_eq
/-! cells -/
def encP (p : PlG) : List Value := [.int .u8 p.row, .int .u64 p.at_]
theorem cell_all {l : List PlG} {t : Nat} (h : t < l.length * 2) : (RPl.all l)[t]? = some ((encP l.toArray[t / 2]!)[t % 2]!) := by
  have hi : t / 2 < l.length := by omega
  have e : t = t / 2 * RPl.sz + t % 2 := by show t = t / 2 * 2 + t % 2; omega
  have h1 : (flat (RPl.sg l[t / 2]))[t % 2]? = some ((encP l.toArray[t / 2]!)[t % 2]!) := by
    have : l.toArray[t / 2]! = l[t / 2] := by simp [hi]
    rw [this]
    have h2 : t % 2 = 0 ∨ t % 2 = 1 := by omega
    rcases h2 with h2 | h2 <;> rw [h2] <;> rfl
  have := Rep.at_ (R := RPl) hi h1
  rw [← e] at this; exact this
theorem put_all {gs gs' ys : List PlG} (hl : gs'.length = gs.length) : putCells id 0 (flatK encP 2 gs'.toArray) (RPl.all (gs ++ ys)).toArray = (RPl.all (gs' ++ ys)).toArray := by
  have hs : RPl.sz = 2 := rfl
  apply Array.ext_getElem?
  intro k
  unfold putCells
  rw [Array.getElem?_mapIdx]
  simp only [List.getElem?_toArray, size_flatK, List.size_toArray, Nat.zero_le, true_and, Nat.zero_add, Nat.sub_zero, Rep.all_append]
  by_cases hk : k < gs.length * 2
  · rw [List.getElem?_append_left (by rw [Rep.len, hs]; exact hk), List.getElem?_append_left (by rw [Rep.len, hs, hl]; exact hk), cell_all hk, cell_all (by rw [hl]; exact hk)]
    simp only [Option.map_some, hl, hk, if_true, id]
    rw [get_flatK _ _ _ _ (by simp only [List.size_toArray, hl]; exact hk)]
  · rw [List.getElem?_append_right (by rw [Rep.len, hs]; omega), List.getElem?_append_right (by rw [Rep.len, hs, hl]; omega), Rep.len, Rep.len, hl]
    simp only [hl, hk, if_false]
    cases (RPl.all ys)[k - gs.length * RPl.sz]? <;> rfl
/-! the order's own call -/
theorem grown_of {W w' : World} {M : List Assn} (h : St W no M w') : ∃ q os, w' = grow (W.drewN q) os := by
  refine ⟨w'.drawn - W.drawn, w'.heap.extract W.heap.size w'.heap.size, ?_⟩
  have h1 := h.tape.drawn
  have h2 := h.size
  have e : w'.heap = W.heap ++ w'.heap.extract W.heap.size w'.heap.size := by
    apply Array.ext_getElem?
    intro k
    by_cases hk : k < W.heap.size
    · rw [Array.getElem?_append_left hk]; exact h.keep k hk id
    · rw [Array.getElem?_append_right (by omega), Array.getElem?_extract]
      by_cases hk2 : k < w'.heap.size
      · rw [if_pos (by simp; omega)]; congr 1; omega
      · rw [if_neg (by simp; omega), Array.getElem?_eq_none (by omega)]
  obtain ⟨hp, tp, dr, os, op⟩ := w'
  show World.mk _ _ _ _ _ = World.mk _ _ _ _ _
  rw [World.mk.injEq]
  exact ⟨e, h.tape.tape, (show dr = W.drawn + (dr - W.drawn) by simp only at h1; omega), h.os, h.output⟩
theorem cmp_lays (blk off size : Nat) (w : World) : CmpLays Try.prog 40 #[] encP 2 cmpP blk off size w := fun m os dk _ x y => by
  rw [Array.append_empty]
  refine (pl_compare x.row x.at_ y.row y.at_ (sortWorldK encP 2 w blk off m dk os)).mono fun e w' ⟨r, he, hs, hφ⟩ => ?_
  refine ⟨?_, grown_of hs⟩
  rw [he]
  have : r = cmpP x y := hφ
  rw [this]
theorem UpdF.self {L : List Assn} {A : Assn} {F : Assn → List Assn} (h : UpdF L A F) : F A = L := by
  obtain ⟨i, h1, h2⟩ := h.get
  obtain ⟨hi, h3⟩ := List.getElem?_eq_some_iff.1 h1
  rw [h2, ← h3, List.set_getElem_self]
theorem sortW_heap (w : World) (b n : Nat) (d : Array PlG) (os : Array Obj) : (sortWorldK encP 2 w b 0 n d os).heap = (w.heap.modify b (onCells (putCells id 0 (flatK encP 2 d)))) ++ os := rfl
instance sort_ctr {w0 : World} {X : Nat → Prop} {L : List Assn} {s : Sv} {n : Nat} {gs : List PlG} {F : Assn → List Assn} [h : FRow L s n 32 RPl gs] [hF : UpdF L (rw_ 32 RPl s n gs) F] :
    Ctr Try.prog 41 [.slice s.A n s.c, .func (.func 40) #[] #[]] w0 X L (n ≤ 1000000) (fun _ : Unit => .tuple #[]) (fun _ => F (rw_ 32 RPl s n (sortP gs))) (fun _ => True) :=
  ⟨by kernel_rfl, fun hn w hw => by
    obtain ⟨k, hk, hsub⟩ := hw.getM h.get
    obtain ⟨hl, ⟨rfl, rfl⟩ | ⟨b, ys, rfl, hm, rfl⟩⟩ := hk
    · refine (Go.Proofs.AnyF.slices_SortFunc_none sort_lays none 0 _ w).mono fun e w' ⟨he, hw'⟩ => ⟨(), he, ?_, trivial⟩
      subst hw'
      have h0 := List.eq_nil_of_length_eq_zero hl
      subst h0
      have e : sortP [] = [] := by simp [sortP]
      rw [e, hF.self]; exact hw
    · subst hl
      have hb := hsub.one
      have hlt : b < w.heap.size := (Array.getElem?_eq_some_iff.1 hb).1
      have hH : HoldsK encP 2 w b 0 gs.toArray := fun j hj => by
        simp only [size_flatK, List.size_toArray] at hj
        rw [get_flatK _ _ _ _ (by simpa using hj)]
        have h1 := cell_all (l := gs) (t := j) hj
        have h2 : (RPl.all (gs ++ ys))[j]? = some ((encP gs.toArray[j / 2]!)[j % 2]!) := by
          rw [Rep.all_append, List.getElem?_append_left (by rw [Rep.len]; exact hj)]; exact h1
        refine ⟨?_, ?_⟩
        · simp only [World.cell?, hb, Nat.zero_add]; simpa using h2
        · simp only [World.frozen?, hb, Nat.zero_add]; rfl
      refine (Go.Proofs.AnyQ.slices_SortFunc_total sort_lays 2 Try.isAgg32 Try.sizeOf32 encP (fun _ => rfl) (fun x v hv => by simp only [encP, List.mem_cons, List.not_mem_nil, or_false] at hv; rcases hv with rfl | rfl <;> rfl) cmpP swoP 40 #[] b 0 _ gs.toArray w (enters_of Try.func40 (by kernel_rfl) rfl) (cmp_lays _ _ _ _) hH hlt (by simp only [List.size_toArray]; simp only [maxLen] at hm; omega) totP).mono fun e w' ⟨he, n', os, hw'⟩ => ⟨(), he, ?_, trivial⟩
      have hsl : (sortP gs).length = gs.length := sortP_len gs
      have hput := put_all (ys := ys) hsl
      have hcell : w'.heap[b]? = some (.cells (RPl.all (sortP gs ++ ys)).toArray 32 (0, 0)) := by
        rw [hw', sortW_heap, Array.getElem?_append_left (by simpa using hlt), Array.getElem?_modify, if_pos rfl, hb]
        show some (Obj.cells (putCells id 0 (flatK encP 2 (sortP gs).toArray) _) _ _) = _
        rw [hput]
      refine hF.st fun i hi => hw.stepT hi (by rw [hw']; rfl) ⟨by rw [hw']; rfl, by rw [hw']; exact Nat.le_add_right _ _⟩ (by rw [hw']; rfl) (by rw [hw', sortW_heap]; simp) fun k hk _ => ?_
      obtain ⟨_, ⟨h0, _⟩ | ⟨b', ys', e2, _, rfl⟩⟩ := hk
      · cases h0
      · simp only [Sv.mk.injEq, Option.some.injEq, Addr.mk.injEq, and_true] at e2
        obtain ⟨rfl, _⟩ := e2
        refine ⟨hone b _, ⟨hsl, .inr ⟨b, ys, rfl, hm, rfl⟩⟩, Sub.of_one hcell, fun c hc => .inl (by rw [hone_ne hc]; simp [hone]), fun c hc hn => ?_⟩
        have hcb : b ≠ c := fun e => by subst e; simp [hone] at hn
        rw [hw', sortW_heap, Array.getElem?_append_left (by simpa using hc), Array.getElem?_modify, if_neg hcb]⟩
end Go.Proofs.Ytjiglibogmehfaa
