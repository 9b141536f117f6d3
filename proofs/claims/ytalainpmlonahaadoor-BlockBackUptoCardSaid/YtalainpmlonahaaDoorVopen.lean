/-
  OPENING ARGUMENTS: what a row's datum says of memory, type by type. No program in sight.
-/
import Derived.Test.YtalainpmlonahaaDoorVro
import Derived.Test.YtalainpmlonahaaDoorVtypes
set_option linter.all false
set_option maxRecDepth 100000
set_option maxHeartbeats 4000000
namespace Go.Proofs.YtalainpmlonahaaDoor
open Go.RowKit Go.ChangeShapes Go.WideShapes Go.ChangeAt

section
variable {P : Program} {H : Type} {enc : TypeId × Value → H} {w : World}
/-- what cells of a type say -/
structure Op (enc : TypeId × Value → H) (P : Program) (w : World) (t : TypeId) {G : Type} (sg : G → List Cs) (φ : G → Prop) (wt : G → Nat) : Prop where
  h : ∀ fuel cs x ps, DataW.trod enc P w 0 (fun _ => true) true fuel t cs = some (x, ps) → ∃ g, cs = flat (sg g) ∧ φ g ∧ wt g ≤ Rows.uptoBulk x
theorem bulk_pos (d : DataW H) : 1 ≤ Rows.uptoBulk d := by
  cases d with
  | lit l => cases l <;> simp [Rows.uptoBulk]
  | nil => simp [Rows.uptoBulk]
  | ptr d => simp [Rows.uptoBulk]
  | slice elems spare => simp [Rows.uptoBulk]
  | agg parts => simp [Rows.uptoBulk]
  | iface t d => simp [Rows.uptoBulk]
  | map entries => simp [Rows.uptoBulk]
  | held h => simp [Rows.uptoBulk]
theorem Op.int {t : TypeId} {k : IntKind} (ht : P.underlying t = some (.int k)) : Op enc P w t (fun n : Int => [.one (.int k n)]) (fun n => (Lit.int k n).wf = true) (fun _ => 1) := ⟨fun fuel cs x ps h => by
  obtain ⟨n, rfl, e, hw⟩ := DataW.trod_int ht h
  exact ⟨n, rfl, hw, bulk_pos _⟩⟩
theorem Op.bool {t : TypeId} (ht : P.underlying t = some .bool) : Op enc P w t (fun b : Bool => [.one (.bool b)]) (fun _ => True) (fun _ => 1) := ⟨fun fuel cs x ps h => by
  obtain ⟨n, rfl, e⟩ := DataW.trod_bool ht h
  exact ⟨n, rfl, trivial, bulk_pos _⟩⟩
theorem all_of {G : Type} {p : Nat → G → Prop} : ∀ n, (∀ i, i < n → ∃ g, p i g) → ∃ gs : List G, gs.length = n ∧ ∀ i (h : i < gs.length), p i gs[i]
  | 0, _ => ⟨[], rfl, fun i h => absurd h (by simp)⟩
  | n + 1, h => by
    obtain ⟨gs, h1, h2⟩ := all_of n fun i hi => h i (by omega)
    obtain ⟨g, hg⟩ := h n (by omega)
    refine ⟨gs ++ [g], by simp [h1], fun i hi => ?_⟩
    by_cases e : i < gs.length
    · rw [List.getElem_append_left e]; exact h2 i e
    · have : i = n := by simp at hi; omega
      subst this
      rw [List.getElem_append_right (by omega)]; simpa using hg
theorem bulk_sum {G : Type} {wt : G → Nat} : ∀ {l : List (DataW H)} {gs : List G}, l.length = gs.length → (∀ i (h1 : i < gs.length) (h2 : i < l.length), wt gs[i] ≤ Rows.uptoBulk l[i]) → (gs.map wt).sum ≤ Rows.uptoBulkAll l
  | [], [], _, _ => by simp [Rows.uptoBulkAll]
  | [], _ :: _, h, _ => by simp at h
  | _ :: _, [], h, _ => by simp at h
  | d :: l, g :: gs, h, h' => by
    have h0 := h' 0 (by simp) (by simp)
    have ih := bulk_sum (l := l) (gs := gs) (by simpa using h) fun i h1 h2 => by
      have := h' (i + 1) (by simpa using h1) (by simpa using h2)
      simpa using this
    simp only [List.getElem_cons_zero] at h0
    simp only [List.map_cons, List.sum_cons, Rows.uptoBulkAll]; omega
/-- a slice, and the room behind it -/
theorem Op.room {t e : TypeId} {G : Type} {R : Rep G} {φ : G → Prop} {wt : G → Nat} (ht : P.underlying t = some (.slice e)) (hc : P.cellsOf e = R.sz) (he : Op enc P w e R.sg φ wt) :
    Op enc P w t (fun x : Sv × List G × List G => [.one (.slice x.1.A x.2.1.length x.1.c)]) (fun x => Slr w R (.slice x.1.A x.2.1.length x.1.c) x.2.1 ∧ Sl w R.sz (.slice x.1.A (x.2.1.length + x.2.2.length) x.1.c) (x.2.1.length + x.2.2.length) (R.all (x.2.1 ++ x.2.2)) ∧ x.1.c = x.2.1.length + x.2.2.length ∧ (∀ g ∈ x.2.1, φ g) ∧ ∀ g ∈ x.2.2, φ g) (fun x => (x.2.1.map wt).sum) := ⟨fun fuel cs x ps h => by
  rcases DataW.trod_slice ht h with ⟨rfl, e0⟩ | ⟨a, len, cap, elems, rest, n, _, rfl, e0, hb, hl, hm, hlen, hel, hsp, hns⟩
  · refine ⟨(⟨none, 0⟩, [], []), rfl, ⟨⟨none, 0, rfl, by simp [Rep.all], Nat.le_refl _, by decide, fun h => absurd h (by simp [Rep.all])⟩, ⟨none, 0, rfl, by simp [Rep.all], Nat.le_refl _, by decide, fun h => absurd h (by simp [Rep.all])⟩, rfl, nofun, nofun⟩, Nat.zero_le _⟩
  · obtain ⟨hrl, hr⟩ := hsp rfl
    have each : ∀ i, i < cap → ∃ g, (w.cells? 0 (a.add (i * P.cellsOf e)) (P.cellsOf e) = some (flat (R.sg g)) ∧ φ g) ∧ ∀ hi : i < len, ∀ h2 : i < elems.length, wt g ≤ Rows.uptoBulk (elems[i]).1 := by
      intro i hi
      by_cases hlt : i < len
      · have h1 := hel i hlt
        rw [List.getElem?_eq_getElem (by omega), Option.bind_eq_some_iff] at h1
        obtain ⟨cs', h2, h3⟩ := h1
        obtain ⟨g, rfl, h4, h5⟩ := he.h _ _ _ _ h3
        exact ⟨g, ⟨h2, h4⟩, fun _ _ => h5⟩
      · have h1 := hr (i - len) (by omega)
        rw [List.getElem?_eq_getElem (by omega), Option.bind_eq_some_iff, show len + (i - len) = i by omega] at h1
        obtain ⟨cs', h2, h3⟩ := h1
        obtain ⟨g, rfl, h4, h5⟩ := he.h _ _ _ _ h3
        exact ⟨g, ⟨h2, h4⟩, fun h => absurd h hlt⟩
    obtain ⟨gs, hg, hgs⟩ := all_of cap each
    have cell : ∀ i (hi : i < gs.length) off, off < R.sz → w.cell? ((a.add (i * R.sz)).add off) = (flat (R.sg gs[i]))[off]? := by
      intro i hi off ho
      have h1 := (hgs i hi).1.1
      rw [hc] at h1
      have h2 := (World.cells?_some h1).2.2 off ho
      exact h2
    have key : 0 < gs.length → ∃ b o, some a = some (⟨b, o, none⟩ : Addr) ∧ ∀ j u, (R.all gs)[j]? = some u → w.cell? ⟨b, o + j, none⟩ = some u := by
      intro hpos
      obtain ⟨blk, off, spot⟩ := a
      have h0 := cell 0 hpos 0 R.pos
      have h1 : (flat (R.sg gs[0])).length = R.sz := Rep.flen _
      rw [List.getElem?_eq_getElem (by have := R.pos; omega)] at h0
      have hsp : spot = none := by
        have h2 := World.cell?_spot h0
        simpa [Addr.add] using h2
      subst hsp
      refine ⟨blk, off, rfl, fun j u hj => ?_⟩
      have hj1 := (List.getElem?_eq_some_iff.1 hj).1
      rw [Rep.len] at hj1
      have hi : j / R.sz < gs.length := (Nat.div_lt_iff_lt_mul R.pos).2 hj1
      have ho : j % R.sz < R.sz := Nat.mod_lt _ R.pos
      have hjj : j / R.sz * R.sz + j % R.sz = j := Nat.div_add_mod' _ _
      have h2 := cell _ hi _ ho
      have h3 : (flat (R.sg gs[j / R.sz])).length = R.sz := Rep.flen _
      rw [List.getElem?_eq_getElem (by omega)] at h2
      have h4 := Rep.at_ (R := R) hi (List.getElem?_eq_getElem (l := flat (R.sg gs[j / R.sz])) (i := j % R.sz) (by omega))
      rw [hjj, hj] at h4
      cases h4
      rw [Addr.add_lit, Addr.add_lit, Nat.add_assoc, hjj] at h2
      exact h2
    have lt : (gs.take len).length = len := by simp; omega
    have ld : (gs.drop len).length = cap - len := by simp; omega
    refine ⟨(⟨some a, cap⟩, gs.take len, gs.drop len), ?_, ⟨?_, ?_, ?_, ?_, ?_⟩, ?_⟩
    · simp only [flat, Cs.cells, lt, List.append_nil]
    · refine ⟨some a, cap, by rw [lt], by rw [Rep.len], by simp only [lt]; omega, hm, fun hpos => ?_⟩
      rw [Rep.len] at hpos
      have hp : 0 < gs.length := by
        have := Nat.pos_of_mul_pos_right hpos
        rw [lt] at this; omega
      obtain ⟨b, o, e1, e2⟩ := key hp
      refine ⟨b, o, e1, fun j u hj => e2 j u ?_⟩
      rw [← Rep.all_take] at hj
      rw [List.getElem?_take] at hj
      split at hj
      · exact hj
      · cases hj
    · refine ⟨some a, cap, rfl, by rw [Rep.len, List.length_append], by simp only [lt, ld]; omega, hm, fun hpos => ?_⟩
      rw [List.take_append_drop] at hpos ⊢
      rw [Rep.len] at hpos
      exact key (Nat.pos_of_mul_pos_right hpos)
    · simp only [lt, ld]; omega
    · intro g hg
      obtain ⟨i, hi, rfl⟩ := List.getElem_of_mem (List.mem_of_mem_take hg)
      exact (hgs i hi).1.2
    · intro g hg
      obtain ⟨i, hi, rfl⟩ := List.getElem_of_mem (List.mem_of_mem_drop hg)
      exact (hgs i hi).1.2
    · have e1 : x = .slice (elems.map (·.1)) (rest.map (·.1)) := congrArg Prod.fst e0
      rw [e1]
      simp only [Rows.uptoBulk]
      have := bulk_sum (wt := wt) (l := elems.map (·.1)) (gs := gs.take len) (by simp [lt, hlen]) fun i h1 h2 => by
        simp only [List.length_map] at h2
        rw [List.getElem_take, List.getElem_map]
        exact (hgs i (by rw [List.length_take] at h1; omega)).2 (by omega) h2
      exact Nat.le_trans this (by omega)⟩
theorem Op.mono {t : TypeId} {G G' : Type} {sg : G → List Cs} {sg' : G' → List Cs} {φ : G → Prop} {φ' : G' → Prop} {wt : G → Nat} {wt' : G' → Nat} (h : Op enc P w t sg φ wt) (k : ∀ g, φ g → ∃ g', flat (sg g) = flat (sg' g') ∧ φ' g' ∧ wt' g' ≤ wt g) : Op enc P w t sg' φ' wt' := ⟨fun fuel cs x ps hh => by
  obtain ⟨g, rfl, h1, h2⟩ := h.h _ _ _ _ hh
  obtain ⟨g', h3, h4, h5⟩ := k g h1
  exact ⟨g', h3, h4, by omega⟩⟩
theorem Op.slice {t e : TypeId} {G : Type} {R : Rep G} {φ : G → Prop} {wt : G → Nat} (ht : P.underlying t = some (.slice e)) (hc : P.cellsOf e = R.sz) (he : Op enc P w e R.sg φ wt) :
    Op enc P w t (fun x : Sv × List G => [.one (.slice x.1.A x.2.length x.1.c)]) (fun x => Slr w R (.slice x.1.A x.2.length x.1.c) x.2 ∧ ∀ g ∈ x.2, φ g) (fun x => (x.2.map wt).sum) :=
  (Op.room ht hc he).mono fun ⟨s, gs, ys⟩ ⟨h1, _, _, h2, _⟩ => ⟨(s, gs), rfl, ⟨h1, h2⟩, Nat.le_refl _⟩
theorem Op.byte {t : TypeId} (ht : P.underlying t = some (.int .u8)) : Op enc P w t RB.sg (fun _ : UInt8 => True) (fun _ => 1) := (Op.int ht).mono fun n hn => by
  have hr : 0 ≤ n ∧ n ≤ 255 := by simp [Lit.wf, IntKind.min, IntKind.max, IntKind.signed, IntKind.bits] at hn; omega
  refine ⟨u8 n, ?_, trivial, Nat.le_refl _⟩
  show [Value.int .u8 n] = [.int .u8 ((u8 n).toNat : Int)]
  rw [← u8_wrap, wu8 hr]
theorem sum_one {α : Type} (l : List α) : (l.map fun _ => 1).sum = l.length := by induction l with
  | nil => rfl
  | cons x r ih => simp only [List.map_cons, List.sum_cons, List.length_cons, ih]; omega
theorem Op.bytes {t e : TypeId} (ht : P.underlying t = some (.slice e)) (he : P.underlying e = some (.int .u8)) (hc : P.cellsOf e = 1) :
    Op enc P w t (fun x : Sv × List UInt8 => [.one (.slice x.1.A x.2.length x.1.c)]) (fun x => Slr w RB (.slice x.1.A x.2.length x.1.c) x.2) (fun x => x.2.length) :=
  (Op.slice ht hc (Op.byte he)).mono fun x h => ⟨x, rfl, h.1, by rw [sum_one]; exact Nat.le_refl _⟩
theorem Op.array {t e : TypeId} {n : Nat} (ht : P.underlying t = some (.array n e)) (he : P.underlying e = some (.int .u8)) (hc : P.cellsOf e = 1) (hct : P.cellsOf t = n) :
    Op enc P w t (fun l : List UInt8 => [.blk n (RB.all l)]) (fun l => l.length = n) (fun _ => 1) := ⟨fun fuel cs x ps h => by
  obtain ⟨xs, m, _, e0, hlen, hxs, hel⟩ := DataW.trod_array ht h
  have each : ∀ i, i < n → ∃ g : UInt8, (cs.drop i).take 1 = [.int .u8 (g.toNat : Int)] := by
    intro i hi
    have h1 := hel i hi
    rw [hc, Nat.mul_one, List.getElem?_eq_getElem (by omega)] at h1
    obtain ⟨g, h2, _⟩ := (Op.byte (enc := enc) (w := w) he).h _ _ _ _ h1
    exact ⟨g, h2⟩
  obtain ⟨gs, hg, hgs⟩ := all_of n each
  refine ⟨gs, ?_, hg, bulk_pos _⟩
  simp only [flat, Cs.cells, List.append_nil]
  apply List.ext_getElem?
  intro i
  by_cases hi : i < gs.length
  · have h1 := hgs i hi
    have h2 : cs[i]? = some (.int .u8 (gs[i].toNat : Int)) := by
      have := congrArg (·[0]?) h1
      simp only [List.getElem?_take_of_lt Nat.zero_lt_one, List.getElem?_drop, Nat.add_zero] at this
      simpa using this
    have h3 : at1 (RB.sg gs[i]) 0 = some (.int .u8 (gs[i].toNat : Int)) := rfl
    have h4 := Rep.at_ (R := RB) hi (at1_ok (RB.ok _).1 h3)
    have es : RB.sz = 1 := rfl
    rw [es, Nat.mul_one, Nat.add_zero] at h4
    rw [h2, h4]
  · rw [List.getElem?_eq_none (by omega), List.getElem?_eq_none (by rw [Rep.len]; show gs.length * 1 ≤ i; omega)]⟩
/-! structs -/
def Fields (enc : TypeId × Value → H) (P : Program) (w : World) (b : Nat) : List Value → List (TypeId × Nat) → Prop
  | cs, [] => cs = []
  | cs, (t, m) :: r => ∃ d ps fuel, DataW.trod enc P w 0 (fun _ => true) true fuel t (cs.take m) = some (d, ps) ∧ Rows.uptoBulk d ≤ b ∧ Fields enc P w (b - Rows.uptoBulk d) (cs.drop m) r
theorem Fields.mono : ∀ {r : List (TypeId × Nat)} {cs : List Value} {b b' : Nat}, b ≤ b' → Fields enc P w b cs r → Fields enc P w b' cs r
  | [], _, _, _, _, h => h
  | (t, m) :: r, cs, b, b', hb, ⟨d, ps, f, h1, h2, h3⟩ => ⟨d, ps, f, h1, by omega, Fields.mono (by omega) h3⟩
theorem Fields.cons {t : TypeId} {m : Nat} {r : List (TypeId × Nat)} {cs : List Value} {b : Nat} {G : Type} {sg : G → List Cs} {φ : G → Prop} {wt : G → Nat} (ho : Op enc P w t sg φ wt) (h : Fields enc P w b cs ((t, m) :: r)) :
    ∃ g cs', cs = flat (sg g) ++ cs' ∧ φ g ∧ wt g ≤ b ∧ Fields enc P w (b - wt g) cs' r := by
  obtain ⟨d, ps, f, h1, h2, h3⟩ := h
  obtain ⟨g, e, h4, h5⟩ := ho.h _ _ _ _ h1
  exact ⟨g, cs.drop m, by rw [← e, List.take_append_drop], h4, by omega, h3.mono (by omega)⟩
def consec : Nat → List (TypeId × Nat × Nat) → Option (List (TypeId × Nat) × Nat)
  | o, [] => some ([], o)
  | o, (t, p, m) :: r => if Nat.beq p o then (match consec (o + m) r with | some x => some ((t, m) :: x.1, x.2) | none => none) else none
theorem fields_of {fs : List (TypeId × Nat × Nat)} : ∀ {o e : Nat} {l : List (TypeId × Nat)} {xs : List (DataW H × List MemPlace)} {cs : List Value} {fuel : Nat}, consec o fs = some (l, e) → cs.length = e → xs.length = fs.length →
    (∀ (i : Nat) (x : TypeId × Nat × Nat), (fs : List (TypeId × Nat × Nat))[i]? = some x → DataW.trod enc P w 0 (fun _ => true) true fuel x.1 ((cs.drop x.2.1).take x.2.2) = xs[i]?) → Fields enc P w (Rows.uptoBulkAll (xs.map (·.1))) (cs.drop o) l := by
  induction fs with
  | nil =>
    intro o e l xs cs fuel h hl hx _
    simp only [consec, Option.some.injEq, Prod.mk.injEq] at h
    obtain ⟨rfl, rfl⟩ := h
    exact List.drop_eq_nil_of_le (by omega)
  | cons x r ih =>
    intro o e l xs cs fuel h hl hx hh
    obtain ⟨t, p, m⟩ := x
    simp only [consec] at h
    split at h
    · rename_i hb
      have hb := beqT hb
      subst hb
      split at h
      · rename_i y hy
        cases h
        cases xs with
        | nil => simp at hx
        | cons d xs =>
          have h0 := hh 0 (t, p, m) rfl
          simp only [List.getElem?_cons_zero] at h0
          have h1 := ih (o := p + m) (e := y.2) (l := y.1) (xs := xs) (cs := cs) (fuel := fuel) hy hl (by simpa using hx) fun i x hi => by
            have := hh (i + 1) x (by simpa using hi)
            simpa using this
          refine ⟨d.1, d.2, fuel, h0, by simp [Rows.uptoBulkAll], ?_⟩
          rw [List.drop_drop]
          simp only [List.map_cons, Rows.uptoBulkAll, Nat.add_sub_cancel_left]
          exact h1
      · cases h
    · cases h
theorem Op.fields {t : TypeId} {specs : List (TypeId × Nat × Nat)} {l : List (TypeId × Nat)} {G : Type} {sg : G → List Cs} {φ : G → Prop} {wt : G → Nat} (hs : specsOf P t = some specs) (hl : consec 0 specs = some (l, P.cellsOf t))
    (k : ∀ cs b, Fields enc P w b cs l → ∃ g, cs = flat (sg g) ∧ φ g ∧ wt g ≤ b + 1) : Op enc P w t sg φ wt := ⟨fun fuel cs x ps h => by
  unfold specsOf at hs
  split at hs
  · rename_i fs hu
    cases hs
    obtain ⟨xs, n, _, e0, h1, h2, h3⟩ := DataW.trod_struct hu h
    have hF := fields_of (enc := enc) (P := P) (w := w) (xs := xs) (cs := cs) (fuel := n) hl h1 (by simp [h2]) fun i x hi => by
      rw [List.getElem?_map, Option.map_eq_some_iff] at hi
      obtain ⟨f, hf, rfl⟩ := hi
      exact h3 i f (by simpa using hf)
    rw [List.drop_zero] at hF
    obtain ⟨g, e, h4, h5⟩ := k _ _ hF
    refine ⟨g, e, h4, ?_⟩
    have e1 : x = .agg (xs.map (·.1)) := congrArg Prod.fst e0
    rw [e1]; simpa [Rows.uptoBulk] using h5
  · cases hs⟩
/-- an argument that is a struct -/
theorem Op.agg {t : TypeId} {fs : Array Field} {v : Value} {d : DataW H} {ps : List MemPlace} {r : Reach} {b0 : Nat} {G : Type} {sg : G → List Cs} {φ : G → Prop} {wt : G → Nat} (ho : Op enc P w t sg φ wt) (ht : P.underlying t = some (.struct fs)) (hval : Value.okWide P w r b0 t v)
    (h : DataW.Trod enc P w 0 (fun _ => true) true t v d ps) : ∃ g, v = Ag (sg g) ∧ φ g ∧ wt g ≤ Rows.uptoBulk d := by
  obtain ⟨cs, rfl, _⟩ := okWide_struct ht hval
  obtain ⟨fuel, hf⟩ := h
  obtain ⟨g, e, h1, h2⟩ := ho.h _ _ _ _ hf
  refine ⟨g, ?_, h1, h2⟩
  simp only [Value.cells] at e
  unfold Ag; rw [← e]
/-- an argument that is a slice -/
theorem Op.slc {t e : TypeId} {v : Value} {d : DataW H} {ps : List MemPlace} {r : Reach} {b0 : Nat} {G : Type} {f : G → Value} {φ : G → Prop} {wt : G → Nat} (ho : Op enc P w t (fun x => [.one (f x)]) φ wt) (ht : P.underlying t = some (.slice e)) (hval : Value.okWide P w r b0 t v)
    (h : DataW.Trod enc P w 0 (fun _ => true) true t v d ps) : ∃ g, v = f g ∧ φ g ∧ wt g ≤ Rows.uptoBulk d := by
  obtain ⟨a, len, cap, rfl⟩ := okWide_slice ht hval
  obtain ⟨fuel, hf⟩ := h
  obtain ⟨g, e, h1, h2⟩ := ho.h _ _ _ _ hf
  refine ⟨g, ?_, h1, h2⟩
  simpa [Value.cells, flat, Cs.cells] using e
/-- an argument of one cell -/
theorem Op.one {t : TypeId} {v u : Value} {d : DataW H} {ps : List MemPlace} {G : Type} {sg : G → List Cs} {φ : G → Prop} {wt : G → Nat} (ho : Op enc P w t sg φ wt) (hv : v.cells.toList = [v])
    (h : DataW.Trod enc P w 0 (fun _ => true) true t v d ps) : ∃ g, [v] = flat (sg g) ∧ φ g ∧ wt g ≤ Rows.uptoBulk d := by
  obtain ⟨fuel, hf⟩ := h
  obtain ⟨g, e, h1, h2⟩ := ho.h _ _ _ _ hf
  exact ⟨g, by rw [← hv]; exact e, h1, h2⟩
end
theorem wf_u16 {n : Int} (h : (Lit.int .u16 n).wf = true) : 0 ≤ n ∧ n ≤ 65535 := by simp [Lit.wf, IntKind.min, IntKind.max, IntKind.signed, IntKind.bits] at h; omega
theorem wf_u8 {n : Int} (h : (Lit.int .u8 n).wf = true) : 0 ≤ n ∧ n ≤ 255 := by simp [Lit.wf, IntKind.min, IntKind.max, IntKind.signed, IntKind.bits] at h; omega
theorem wf_u32 {n : Int} (h : (Lit.int .u32 n).wf = true) : 0 ≤ n ∧ n ≤ 4294967295 := by simp [Lit.wf, IntKind.min, IntKind.max, IntKind.signed, IntKind.bits] at h; omega
theorem wf_u64 {n : Int} (h : (Lit.int .u64 n).wf = true) : 0 ≤ n ∧ n ≤ 18446744073709551615 := by simp [Lit.wf, IntKind.min, IntKind.max, IntKind.signed, IntKind.bits] at h; omega
theorem wf_i64 {n : Int} (h : (Lit.int .i64 n).wf = true) : -9223372036854775808 ≤ n ∧ n ≤ 9223372036854775807 := by simp [Lit.wf, IntKind.min, IntKind.max, IntKind.signed, IntKind.bits] at h; omega
end Go.Proofs.YtalainpmlonahaaDoor
