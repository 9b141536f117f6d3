/-
  REGIONS WHOSE ORDER IS DRAWN: one order serves for all, if what looks at memory alone may be taken first. No program in sight.
-/
import Derived.Test.YtkjpemkankefnaaDoorOp
import Derived.OrdersHeld
namespace Go.Proofs.YtkjpemkankefnaaDoor
open Go.RowKit

def isLoad : Op → Bool
  | .load .. | .lookup .. => true
  | .call { callee := .builtin .len, .. } | .call { callee := .builtin .cap, .. } => true
  | _ => false
def isLight : Op → Bool
  | .move _ | .assign _ | .pick .. | .nilCheck _ | .binOp .. | .unOp .. | .convert .. | .fieldAddr .. | .field .. | .indexAddr .. | .index .. | .extract .. | .slice .. | .sliceToArrayPointer .. | .build .. => true
  | o => isLoad o
def lightAt (ops : Array Oper) (i : Nat) : Bool := match ops[i]? with | some o => isLight o.op | none => false
def edgeB (ops : Array Oper) (j i : Nat) : Bool := match ops[j]? with | some o => o.after.toList.any fun e => Region.binds .any e && Nat.beq e.on i | none => false
/-- number i may come ahead of number j, and behind it, as far as their own edges tell -/
def unordB (ops : Array Oper) (j i : Nat) : Bool := !Nat.beq i j && !edgeB ops j i && !edgeB ops i j
/-- what each load that was taken early was promised of the world -/
abbrev Pledges := List (Nat × (World → Prop))
/-- what is asked of the world behind number j -/
def Dem (ops : Array Oper) (j : Nat) : Pledges → World → Prop
  | [], _ => True
  | (i, C) :: D, w => (unordB ops j i = true → C w) ∧ Dem ops j D w
section sem
variable {P : Program} {ops : Array Oper} {Q : Post}
/-- what is asked behind number i: a light one leaves the world; behind another one the pledges hold -/
def Ask (ops : Array Oper) (D : Pledges) (i : Nat) (w w' : World) : Prop := (lightAt ops i = true → w' = w) ∧ (lightAt ops i = false → Dem ops i D w')
def wpAnyN (P : Program) (ops : Array Oper) (Q : Post) (D : Pledges) : Nat → Array Bool → Act → World → Prop
  | 0, listed, a, w => Region.ready .any ops listed = [] ∧ Q .normal a w
  | fuel + 1, listed, a, w =>
    (Region.ready .any ops listed = [] → Q .normal a w) ∧
    ∀ i ∈ Region.ready .any ops listed, wpOp P ops Q i (fun a' w' => Ask ops D i w w' ∧ wpAnyN P ops Q D fuel (listed.setIfInBounds i true) a' w') a w
theorem wpAny_of_N {D : Pledges} : ∀ (fuel : Nat) (listed : Array Bool) (a : Act) (w : World), wpAnyN P ops Q D fuel listed a w → wpAny P .any ops Q fuel listed a w
  | 0, _, _, _, h => h
  | fuel + 1, _, _, _, h => ⟨h.1, fun i hi => wpOp_mono (fun a' w' h' => wpAny_of_N fuel _ a' w' h'.2) (h.2 i hi)⟩
theorem anyN_weak {D D' : Pledges} (hD : ∀ j w w', Ask ops D' j w w' → Ask ops D j w w') : ∀ (fuel : Nat) (listed : Array Bool) (a : Act) (w : World), wpAnyN P ops Q D' fuel listed a w → wpAnyN P ops Q D fuel listed a w
  | 0, _, _, _, h => h
  | fuel + 1, _, _, _, h => ⟨h.1, fun i hi => wpOp_mono (fun a' w' h' => ⟨hD _ _ _ h'.1, anyN_weak hD fuel _ a' w' h'.2⟩) (h.2 i hi)⟩
theorem edge_none {j i : Nat} {o : Oper} (hj : ops[j]? = some o) (h : ∀ e ∈ o.after, Region.binds .any e = true → e.on ≠ i) : edgeB ops j i = false := by
  unfold edgeB
  rw [hj]
  simp only [List.any_eq_false]
  intro e he hb
  simp only [Bool.and_eq_true] at hb
  exact h e (by simpa using he) hb.1 (Nat.eq_of_beq_eq_true hb.2)
theorem ready_edges {j i : Nat} {listed : Array Bool} (hj : j ∈ Region.ready .any ops listed) (hi : i ∈ Region.ready .any ops listed) : edgeB ops j i = false := by
  obtain ⟨_, oj, hoj, hall⟩ := mem_ready.1 hj
  refine edge_none hoj fun e he hb heq => ?_
  have h1 := hall e he hb
  have h0 := (mem_ready.1 hi).1
  rw [heq] at h1
  rcases Nat.lt_or_ge i listed.size with h' | h'
  · simp [h'] at h0 h1; rw [h0] at h1; cases h1
  · simp [Array.getElem?_eq_none h'] at h1
/-- what yields its value whatever comes ahead of it may come first -/
theorem anyN_first {C : World → Prop} {D D' : Pledges} {i : Nat} {oi : Oper} {v : Value} (hi : ops[i]? = some oi) (hl : lightAt ops i = true) (hsel : Region.noSelect ops = true)
    (hQ : ∀ c a w d u, Q (.panic c) (a.put d u) w → Q (.panic c) a w)
    (hD : ∀ j w w', Ask ops D' j w w' → Ask ops D j w w') (hC : ∀ j w w', lightAt ops j = false → unordB ops j i = true → Ask ops D' j w w' → C w') :
    ∀ (fuel : Nat) (listed : Array Bool) (a : Act) (w : World),
      (∀ j oj, ops[j]? = some oj → j ≠ i → listed.getD j true = false → (∀ e ∈ oj.after, Region.binds .any e = true → e.on ≠ i) → oi.apart ops oj = true) →
      i ∈ Region.ready .any ops listed → YieldsIf P ops C oi v a → C w →
      wpAnyN P ops Q D' fuel (listed.setIfInBounds i true) (a.put oi.dst v) w → wpAnyN P ops Q D (fuel + 1) listed a w := by
  have hs := Region.noSelect_spec hsel
  have hself : ∀ w, Ask ops D i w w := fun w => ⟨fun _ => rfl, fun h => by rw [hl] at h; cases h⟩
  intro fuel
  induction fuel with
  | zero =>
    intro listed a w _ hr hy hCw H
    refine ⟨fun h => (by rw [h] at hr; cases hr), fun j hj => ?_⟩
    by_cases hji : j = i
    · subst hji; exact hy.wpOp hi hCw ⟨hself w, H⟩
    · have := ready_mono hj hji
      rw [H.1] at this
      cases this
  | succ fuel ih =>
    intro listed a w hfree hr hy hCw H
    refine ⟨fun h => (by rw [h] at hr; cases hr), fun j hj => ?_⟩
    by_cases hji : j = i
    · subst hji; exact hy.wpOp hi hCw ⟨hself w, anyN_weak hD _ _ _ _ H⟩
    · have h1 := H.2 j (ready_mono hj hji)
      obtain ⟨hjun, oj, hoj, hall⟩ := mem_ready.1 hj
      have hnot : ∀ e ∈ oj.after, Region.binds .any e = true → e.on ≠ i := fun e he hb heq => by
        have h1 := hall e he hb
        have h0 := (mem_ready.1 hr).1
        rw [heq] at h1
        rcases Nat.lt_or_ge i listed.size with h' | h'
        · simp [h'] at h0 h1; rw [h0] at h1; cases h1
        · simp [Array.getElem?_eq_none h'] at h1
      have h2 := wpOp_putIf hoj (hfree j oj hoj hji hjun hnot) (fun cs b => hs i oi cs b hi) (fun cs b => hs j oj cs b hoj) (fun c a w => hQ c a w _ _) hy h1
      have hfree' : ∀ k ok, ops[k]? = some ok → k ≠ i → (listed.setIfInBounds j true).getD k true = false →
          (∀ e ∈ ok.after, Region.binds .any e = true → e.on ≠ i) → oi.apart ops ok = true := fun k ok hk hki hun hno => by
        refine hfree k ok hk hki ?_ hno
        by_cases hjk : j = k
        · subst hjk; exact hjun
        · rw [getD_set_ne true hjk] at hun; exact hun
      have hun : unordB ops j i = true := by
        have : Nat.beq i j = false := by
          cases hb : Nat.beq i j
          · rfl
          · exact absurd (Nat.eq_of_beq_eq_true hb).symm hji
        simp [unordB, this, ready_edges hj hr, ready_edges hr hj]
      refine wpOp_mono (fun a' w' h3 => ⟨hD _ _ _ h3.2.1, ih (listed.setIfInBounds j true) a' w' hfree' (ready_mono hr (Ne.symm hji)) h3.1 ?_ ?_⟩) h2
      · cases hlj : lightAt ops j
        · exact hC j w w' hlj hun h3.2.1
        · rw [h3.2.1.1 hlj]; exact hCw
      · rw [Array.setIfInBounds_comm _ _ hji]
        exact h3.2.2
/-- one operation of the order that was chosen -/
def StepO (P : Program) (ops : Array Oper) (Q : Post) (D : Pledges) (o : Oper) (i : Nat) (K : Pledges → Act → World → Prop) (a : Act) (w : World) : Prop :=
  if lightAt ops i = true then ∃ v, (YieldsIf P ops (fun _ => True) o v a ∧ K D (a.put o.dst v) w) ∨ (∃ C : World → Prop, C w ∧ YieldsIf P ops C o v a ∧ K ((i, C) :: D) (a.put o.dst v) w)
  else if Region.wanted o (yielded ops a.tmps) then o.wp P a w (fun a' w' => Dem ops i D w' ∧ K D a' w') Q ∨ (o.asks P a w ∧ LetsOut Q)
  else Dem ops i D w ∧ K D (a.put o.dst undef) w
/-- the order r, and K behind it -/
def wpP (P : Program) (ops : Array Oper) (Q : Post) (K : Pledges → Act → World → Prop) : List Nat → Pledges → Act → World → Prop
  | [], D, a, w => K D a w
  | i :: r, D, a, w => ∃ o, ops[i]? = some o ∧ StepO P ops Q D o i (wpP P ops Q K r) a w
def wpO (P : Program) (ops : Array Oper) (Q : Post) : List Nat → Pledges → Act → World → Prop := wpP P ops Q fun _ => Q .normal
theorem heavy_step {i : Nat} {D : Pledges} {K : Pledges → Act → World → Prop} {a : Act} {w : World} {o : Oper} (ho : ops[i]? = some o) (hl : lightAt ops i = false) (hst : StepO P ops Q D o i K a w) {K' : Act → World → Prop} (hk : ∀ a w, K D a w → K' a w) :
    wpOp P ops Q i (fun a' w' => Ask ops D i w w' ∧ K' a' w') a w := by
  unfold StepO at hst
  rw [hl, if_neg (by simp)] at hst
  unfold wpOp
  simp only [ho]
  split
  · rename_i hw
    rw [if_pos hw] at hst
    exact hst.imp (Oper.wp_mono (fun a' w' h => ⟨⟨fun h0 => absurd h0 (by simp [hl]), fun _ => h.1⟩, hk a' w' h.2⟩)) id
  · rename_i hw
    rw [if_neg hw] at hst
    exact ⟨⟨fun h0 => absurd h0 (by simp [hl]), fun _ => hst.1⟩, hk _ _ hst.2⟩
def okP (ops : Array Oper) : Array Bool → List Nat → (Array Bool → Bool) → Bool
  | listed, [], f => f listed
  | listed, i :: r, f => (if lightAt ops i then Region.free .any ops listed i && (Region.ready .any ops listed).contains i else (Region.ready .any ops listed) == [i]) && okP ops (listed.setIfInBounds i true) r f
theorem anyN_of_P {K : Pledges → Act → World → Prop} {f : Array Bool → Bool} {m : Nat} (hsel : Region.noSelect ops = true) (hQ : ∀ c a w d u, Q (.panic c) (a.put d u) w → Q (.panic c) a w)
    (hK : ∀ listed D a w, f listed = true → K D a w → wpAnyN P ops Q D m listed a w) :
    ∀ (r : List Nat) (listed : Array Bool) (D : Pledges) (a : Act) (w : World), okP ops listed r f = true → wpP P ops Q K r D a w → wpAnyN P ops Q D (m + r.length) listed a w
  | [], listed, D, a, w, hok, h => hK listed D a w hok h
  | i :: r, listed, D, a, w, hok, h => by
    obtain ⟨o, ho, hst⟩ := h
    simp only [okP, Bool.and_eq_true] at hok
    obtain ⟨h1, h2⟩ := hok
    have ih := fun D a w => anyN_of_P hsel hQ hK r (listed.setIfInBounds i true) D a w h2
    cases hl : lightAt ops i
    · rw [hl, if_neg (by simp)] at h1
      have hr : Region.ready .any ops listed = [i] := by simpa using h1
      refine ⟨fun h0 => (by rw [hr] at h0; cases h0), fun j hj => ?_⟩
      rw [hr] at hj
      obtain rfl : j = i := by simpa using hj
      exact heavy_step ho hl hst fun a w h => ih D a w h
    · unfold StepO at hst
      rw [hl, if_pos rfl] at h1 hst
      simp only [Bool.and_eq_true] at h1
      have hr : i ∈ Region.ready .any ops listed := by simpa using h1.2
      obtain ⟨v, ⟨hy, hk⟩ | ⟨C, hCw, hy, hk⟩⟩ := hst
      · exact anyN_first (C := fun _ => True) (D' := D) ho hl hsel hQ (fun _ _ _ h => h) (fun _ _ _ _ _ _ => trivial) (m + r.length) listed a w (Region.free_spec ho h1.1) hr hy trivial (ih _ _ _ hk)
      · exact anyN_first (C := C) (D' := (i, C) :: D) ho hl hsel hQ (fun j w w' h => ⟨h.1, fun h0 => (h.2 h0).2⟩) (fun j w w' h0 hu h => (h.2 h0).1 hu) (m + r.length) listed a w (Region.free_spec ho h1.1) hr hy hCw (ih _ _ _ hk)
def emptyB (ops : Array Oper) (listed : Array Bool) : Bool := (Region.ready .any ops listed).isEmpty
theorem anyN_of_O (hsel : Region.noSelect ops = true) (hQ : ∀ c a w d u, Q (.panic c) (a.put d u) w → Q (.panic c) a w) (r : List Nat) (listed : Array Bool) (D : Pledges) (a : Act) (w : World) (hok : okP ops listed r (emptyB ops) = true) (h : wpO P ops Q r D a w) : wpAnyN P ops Q D r.length listed a w := by
  have := anyN_of_P (m := 0) hsel hQ (fun listed D a w hf hk => ⟨by simpa [emptyB] using hf, hk⟩) r listed D a w hok h
  rwa [Nat.zero_add] at this
end sem

theorem Cont.blind {P : Program} {n : Nat} : ∀ (Q : Cont) (c : List PanicEntry) (a : Act) (w : World) (d : Option Tmp) (u : Value), Q.post P n (.panic c) (a.put d u) w → Q.post P n (.panic c) a w
  | .body _ _, _, _, _, d, _, h => by cases d <;> exact h
  | .seq _ k, c, a, w, d, u, h => Cont.blind k c a w d u h
  | .blk _ k, c, a, w, d, u, h => Cont.blind k c a w d u h
  | .loop _ _ _ _ _ k, c, a, w, d, u, h => Cont.blind k c a w d u h
  | .cut _ _ _ k, c, a, w, d, u, h => Cont.blind k c a w d u h
  | .step _ k, c, a, w, d, u, h => Cont.blind k c a w d u h
  | .scope _ _ _ _ _ k, c, a, w, d, u, h => Cont.blind k c a w d u h

def nthO : List Oper → Nat → Option Oper
  | [], _ => none
  | o :: _, 0 => some o
  | _ :: l, i + 1 => nthO l i
theorem nthO_eq : ∀ (l : List Oper) (i : Nat), nthO l i = l[i]?
  | [], i => by simp [nthO]
  | o :: l, 0 => by simp [nthO]
  | o :: l, i + 1 => by simp [nthO, nthO_eq l i]
/-- the rest of the order -/
structure TW (P : Program) (n : Nat) (ops : Array Oper) (D : Pledges) (r : List Nat) (Q : Cont) (E : Env) (w : World) : Prop where
  go : ∀ a, EnvOk n E a → wpO P ops (Q.post P n) r D a w
/-- its first operation is o -/
structure TO (P : Program) (n : Nat) (ops : Array Oper) (D : Pledges) (o : Oper) (i : Nat) (r : List Nat) (Q : Cont) (E : Env) (w : World) : Prop where
  go : ∀ a, EnvOk n E a → StepO P ops (Q.post P n) D o i (wpO P ops (Q.post P n) r) a w
/-- the pledges hold here -/
structure DM (ops : Array Oper) (i : Nat) (D : Pledges) (w : World) : Prop where
  is : Dem ops i D w
theorem dm_nil {ops : Array Oper} {i : Nat} {w : World} : DM ops i [] w := ⟨trivial⟩
theorem dm_off {ops : Array Oper} {i j : Nat} {C : World → Prop} {D : Pledges} {w : World} (hu : unordB ops i j = false) (h : DM ops i D w) : DM ops i ((j, C) :: D) w := ⟨⟨fun h0 => absurd h0 (by simp [hu]), h.is⟩⟩
theorem dm_on {ops : Array Oper} {i j : Nat} {C : World → Prop} {D : Pledges} {w : World} (hC : C w) (h : DM ops i D w) : DM ops i ((j, C) :: D) w := ⟨⟨fun _ => hC, h.is⟩⟩

section
variable {P : Program} {n : Nat} {Q : Cont} {E : Env} {w0 w : World} {Z : Nat → Prop} {L : List Assn} {ops : Array Oper} {D : Pledges} {r : List Nat} {i : Nat} {o : Oper} {v : Value}
variable {d : Nat} {ty : TypeId} {pos : String} {aft : Array Edge} {op : Op}
def drawB (ops : Array Oper) (r : List Nat) : Bool := Region.noSelect ops && Nat.beq r.length ops.size && okP ops (Array.replicate ops.size false) r (emptyB ops)
theorem t_draw {id : Nat} (r : List Nat) (hm : P.follows .mixedOrders = true) (hok : drawB ops r = true) (hst : St w0 Z L w) (h : ∀ w, St w0 Z L w → TW P n ops [] r Q E w) : T P n (.region id ops true) Q E w := ⟨fun a ha => by
  simp only [drawB, Bool.and_eq_true] at hok
  have hl : r.length = ops.size := Nat.eq_of_beq_eq_true hok.1.2
  refine wp_region_any hm (wpAny_of_N (D := []) _ _ _ _ ?_)
  rw [← hl]
  exact anyN_of_O hok.1.1 (Cont.blind Q) r _ [] a _ (hl ▸ hok.2) ((h _ hst.drew).go a ha)⟩
theorem tw_nil (h : N P n Q E w) : TW P n ops D [] Q E w := ⟨fun a ha => h.go a ha⟩
theorem tw_get (ho : nthO ops.toList i = some o) (h : TO P n ops D o i r Q E w) : TW P n ops D (i :: r) Q E w := ⟨fun a ha => ⟨o, by rw [← Array.getElem?_toList, ← nthO_eq]; exact ho, h.go a ha⟩⟩
theorem yif_none {C : World → Prop} {o : Oper} {a : Act} (hg : o.guard = none) (h : ∀ w, C w → (execOp a.eval o).run P w = .ok (.value v) w) : YieldsIf P ops C o v a := .inl ⟨by simp [Region.wanted, hg], h⟩
theorem to_yld (hl : lightAt ops i = true) (h : Yld P n ⟨some d, op, ty, pos, aft, none⟩ E v) (hd : Nat.blt d n = true) (k : TW P n ops D r Q ((d, v) :: E) w) : TO P n ops D ⟨some d, op, ty, pos, aft, none⟩ i r Q E w := ⟨fun a ha => by
  unfold StepO
  rw [if_pos hl]
  exact ⟨v, .inl ⟨yif_none rfl fun w _ => h.go a w ha, k.go _ (ha.put hd v)⟩⟩⟩
/-- a load: C is what it asks of the world -/
theorem to_ldC (C : World → Prop) (hl : lightAt ops i = true) (hC : C w) (h : ∀ w, C w → YldAt P n ⟨some d, op, ty, pos, aft, none⟩ E w v) (hd : Nat.blt d n = true) (k : TW P n ops ((i, C) :: D) r Q ((d, v) :: E) w) : TO P n ops D ⟨some d, op, ty, pos, aft, none⟩ i r Q E w := ⟨fun a ha => by
  unfold StepO
  rw [if_pos hl]
  exact ⟨v, .inr ⟨C, hC, yif_none rfl fun w hw => (h w hw).go a ha, k.go _ (ha.put hd v)⟩⟩⟩
theorem to_ld (hl : lightAt ops i = true) (hst : St w0 Z L w) (h : ∀ w, St w0 Z L w → YldAt P n ⟨some d, op, ty, pos, aft, none⟩ E w v) (hd : Nat.blt d n = true) (k : TW P n ops ((i, St w0 Z L) :: D) r Q ((d, v) :: E) w) : TO P n ops D ⟨some d, op, ty, pos, aft, none⟩ i r Q E w :=
  to_ldC (St w0 Z L) hl hst h hd k
/-- what a block holds -/
structure HeapIs (g : Nat) (o : Obj) (w : World) : Prop where
  is : w.heap[g]? = some o
theorem to_ld_box {x : Operand} {t tt : TypeId} {g k : Nat} {off : Nat} {cs : List Value} (hl : lightAt ops i = true) (hst : St w0 Z L w) (hi : L[k]? = some (cellsA g tt cs)) (hx : eev E x = some (.pointer (some ⟨g, off, none⟩))) (ha : aggB P t = some false) (hc : cs[off]? = some v) (hd : Nat.blt d n = true)
    (kk : TW P n ops ((i, HeapIs g (.cells cs.toArray tt (0, 0))) :: D) r Q ((d, v) :: E) w) : TO P n ops D ⟨some d, .load t x, ty, pos, aft, none⟩ i r Q E w :=
  to_ldC (HeapIs g (.cells cs.toArray tt (0, 0))) hl ⟨hst.box hi⟩ (fun w hw => ld_one hx ha (by rw [cell_of_row w g off _ _ _ hw.is]; simpa using hc)) hd kk
/-- an operation that turns the world, or makes memory, or calls -/
def KO (P : Program) (n : Nat) (ops : Array Oper) (D : Pledges) (i : Nat) (r : List Nat) (Q : Cont) : Act → World → Prop := fun a w => Dem ops i D w ∧ wpO P ops (Q.post P n) r D a w
theorem upon_then {R : Act → World → Prop} {o : Oper} {a : Act} {K : Act → World → Prop} {Q : Post} (h : o.wp P a w K (Exit.then R Q)) : o.wp P a w K Q := by
  unfold Oper.wp at *
  generalize (execOp a.eval o).run P w = x at *
  cases x with
  | ok n w' => cases n <;> exact h
  | halt x w' => cases x <;> exact h
theorem to_heavy (hl : lightAt ops i = false) (h : TL P n ops [o] (.step (KO P n ops D i r Q) Q) E w) : TO P n ops D o i r Q E w := ⟨fun a ha => by
  have h1 := h.go a ha
  unfold StepO
  rw [hl, if_neg (by simp)]
  unfold wpList at h1
  split
  · rename_i hw
    rw [if_pos hw] at h1
    exact h1.imp upon_then id
  · rename_i hw
    rw [if_neg hw] at h1
    exact h1⟩
theorem n_step (hD : DM ops i D w) (h : TW P n ops D r Q E w) : N P n (.step (KO P n ops D i r Q) Q) E w := ⟨fun a ha => ⟨hD.is, h.go a ha⟩⟩

/-! guards -/
variable {dst : Option Tmp} {j dj : Nat} {b b' : Bool}
theorem yielded_of {a : Act} (ha : EnvOk n E a) (hj : (ops[j]?).bind (·.dst) = some dj) (hv : eget E dj = some (.bool b)) : yielded ops a.tmps j = some b := by
  unfold yielded
  rw [hj]
  simp [ha.get _ _ hv]
theorem to_guard_on (hj : (ops[j]?).bind (·.dst) = some dj) (hv : eget E dj = some (.bool b))
    (k : TO P n ops D ⟨dst, op, ty, pos, aft, none⟩ i r Q E w) : TO P n ops D ⟨dst, op, ty, pos, aft, some (j, b)⟩ i r Q E w := ⟨fun a ha => by
  have h := k.go a ha
  have hy := yielded_of ha hj hv
  have hw : Region.wanted ⟨dst, op, ty, pos, aft, some (j, b)⟩ (yielded ops a.tmps) = true := by simp [Region.wanted, hy]
  have hY : ∀ {C : World → Prop} {v : Value}, YieldsIf P ops C ⟨dst, op, ty, pos, aft, none⟩ v a → YieldsIf P ops C ⟨dst, op, ty, pos, aft, some (j, b)⟩ v a := fun h => by
    rcases h with h | h
    · exact .inl ⟨hw, h.2⟩
    · have h3 := h.1; simp [Region.wanted] at h3
  unfold StepO at h ⊢
  split
  · rename_i hl
    rw [if_pos hl] at h
    obtain ⟨v, ⟨h1, h2⟩ | ⟨C, h1, h2, h3⟩⟩ := h
    · exact ⟨v, .inl ⟨hY h1, h2⟩⟩
    · exact ⟨v, .inr ⟨C, h1, hY h2, h3⟩⟩
  · rename_i hl
    rw [if_neg hl] at h
    rw [if_pos (by simp [Region.wanted])] at h
    exact h⟩
theorem to_off {o : Oper} (hl : lightAt ops i = true) (hw : ∀ a, EnvOk n E a → Region.wanted o (yielded ops a.tmps) = false) (hdst : o.dst = some d) (hd : Nat.blt d n = true) (k : TW P n ops D r Q ((d, undef) :: E) w) : TO P n ops D o i r Q E w := ⟨fun a ha => by
  unfold StepO
  rw [if_pos hl, hdst]
  exact ⟨undef, .inl ⟨.inr ⟨hw a ha, rfl⟩, k.go _ (ha.put hd undef)⟩⟩⟩
theorem to_off_heavy {o : Oper} (hl : lightAt ops i = false) (hw : ∀ a, EnvOk n E a → Region.wanted o (yielded ops a.tmps) = false) (hdst : o.dst = some d) (hd : Nat.blt d n = true) (hS : DM ops i D w) (k : TW P n ops D r Q ((d, undef) :: E) w) : TO P n ops D o i r Q E w := ⟨fun a ha => by
  unfold StepO
  rw [if_neg (by simp [hl]), if_neg (by simp [hw a ha]), hdst]
  exact ⟨hS.is, k.go _ (ha.put hd undef)⟩⟩
theorem wanted_off {a : Act} (ha : EnvOk n E a) (hj : (ops[j]?).bind (·.dst) = some dj) (hv : eget E dj = some (.bool b)) (hb : (b == b') = false) : Region.wanted ⟨dst, op, ty, pos, aft, some (j, b')⟩ (yielded ops a.tmps) = false := by
  simp only [Region.wanted, yielded_of ha hj hv]
  cases b <;> cases b' <;> simp_all
theorem to_guard_undef (hl : lightAt ops i = true) (hj : (ops[j]?).bind (·.dst) = some dj) (hv : eget E dj = some undef) (hd : Nat.blt d n = true)
    (k : TW P n ops D r Q ((d, undef) :: E) w) : TO P n ops D ⟨some d, op, ty, pos, aft, some (j, b')⟩ i r Q E w :=
  to_off hl (fun a ha => by
    have hy : yielded ops a.tmps j = none := by
      unfold yielded
      rw [hj]
      simp [ha.get _ _ hv, undef]
    simp [Region.wanted, hy]) rfl hd k
theorem to_guard_t (hl : lightAt ops i = true) (hj : (ops[j]?).bind (·.dst) = some dj) (hv : eget E dj = some (.bool b)) (hd : Nat.blt d n = true)
    (ht : b = true → TO P n ops D ⟨some d, op, ty, pos, aft, none⟩ i r Q ((dj, .bool true) :: E) w) (hf : b = false → TW P n ops D r Q ((d, undef) :: (dj, .bool false) :: E) w) :
    TO P n ops D ⟨some d, op, ty, pos, aft, some (j, true)⟩ i r Q E w := by
  have h0 : ∀ c, eget ((dj, Value.bool c) :: E) dj = some (.bool c) := fun c => by rw [eget_cons, if_pos rfl]
  cases hb : b
  · exact ⟨fun a ha => (to_off (E := (dj, .bool false) :: E) hl (fun a ha => wanted_off ha hj (h0 false) rfl) rfl hd (hf hb)).go a (env_case hv hb ha)⟩
  · exact ⟨fun a ha => (to_guard_on hj (h0 true) (ht hb)).go a (env_case hv hb ha)⟩
theorem to_guard_f (hl : lightAt ops i = true) (hj : (ops[j]?).bind (·.dst) = some dj) (hv : eget E dj = some (.bool b)) (hd : Nat.blt d n = true)
    (hf : b = false → TO P n ops D ⟨some d, op, ty, pos, aft, none⟩ i r Q ((dj, .bool false) :: E) w) (ht : b = true → TW P n ops D r Q ((d, undef) :: (dj, .bool true) :: E) w) :
    TO P n ops D ⟨some d, op, ty, pos, aft, some (j, false)⟩ i r Q E w := by
  have h0 : ∀ c, eget ((dj, Value.bool c) :: E) dj = some (.bool c) := fun c => by rw [eget_cons, if_pos rfl]
  cases hb : b
  · exact ⟨fun a ha => (to_guard_on hj (h0 false) (hf hb)).go a (env_case hv hb ha)⟩
  · exact ⟨fun a ha => (to_off (E := (dj, .bool true) :: E) hl (fun a ha => wanted_off ha hj (h0 true) rfl) rfl hd (ht hb)).go a (env_case hv hb ha)⟩
theorem to_guard_tH (hl : lightAt ops i = false) (hj : (ops[j]?).bind (·.dst) = some dj) (hv : eget E dj = some (.bool b)) (hd : Nat.blt d n = true) (hS : b = false → DM ops i D w)
    (ht : b = true → TO P n ops D ⟨some d, op, ty, pos, aft, none⟩ i r Q ((dj, .bool true) :: E) w) (hf : b = false → TW P n ops D r Q ((d, undef) :: (dj, .bool false) :: E) w) :
    TO P n ops D ⟨some d, op, ty, pos, aft, some (j, true)⟩ i r Q E w := by
  have h0 : ∀ c, eget ((dj, Value.bool c) :: E) dj = some (.bool c) := fun c => by rw [eget_cons, if_pos rfl]
  cases hb : b
  · exact ⟨fun a ha => (to_off_heavy (E := (dj, .bool false) :: E) hl (fun a ha => wanted_off ha hj (h0 false) rfl) rfl hd (hS hb) (hf hb)).go a (env_case hv hb ha)⟩
  · exact ⟨fun a ha => (to_guard_on hj (h0 true) (ht hb)).go a (env_case hv hb ha)⟩
/-! two that may come next, and neither only looks: both ways are walked -/
/-- what is asked where the ways part -/
def Fork (P : Program) (n : Nat) (ops : Array Oper) (i : Nat) (q1 : List Nat) (j : Nat) (q2 : List Nat) (Q : Cont) (D : Pledges) : Act → World → Prop := fun a w => wpO P ops (Q.post P n) (i :: q1) D a w ∧ wpO P ops (Q.post P n) (j :: q2) D a w
def forkB (ops : Array Oper) (i : Nat) (q1 : List Nat) (j : Nat) (q2 : List Nat) (listed : Array Bool) : Bool :=
  Region.ready .any ops listed == [i, j] && !lightAt ops i && !lightAt ops j && Nat.beq q1.length q2.length && okP ops (listed.setIfInBounds i true) q1 (emptyB ops) && okP ops (listed.setIfInBounds j true) q2 (emptyB ops)
def drawFB (ops : Array Oper) (p : List Nat) (i : Nat) (q1 : List Nat) (j : Nat) (q2 : List Nat) : Bool := Region.noSelect ops && Nat.beq (q1.length + 1 + p.length) ops.size && okP ops (Array.replicate ops.size false) p (forkB ops i q1 j q2)
/-- the order p, and then the fork -/
structure TF (P : Program) (n : Nat) (ops : Array Oper) (i : Nat) (q1 : List Nat) (j : Nat) (q2 : List Nat) (D : Pledges) (r : List Nat) (Q : Cont) (E : Env) (w : World) : Prop where
  go : ∀ a, EnvOk n E a → wpP P ops (Q.post P n) (Fork P n ops i q1 j q2 Q) r D a w
theorem t_fork {id : Nat} (p : List Nat) (i : Nat) (q1 : List Nat) (j : Nat) (q2 : List Nat) (hm : P.follows .mixedOrders = true) (hok : drawFB ops p i q1 j q2 = true) (hst : St w0 Z L w)
    (h : ∀ w, St w0 Z L w → TF P n ops i q1 j q2 [] p Q E w) : T P n (.region id ops true) Q E w := ⟨fun a ha => by
  simp only [drawFB, Bool.and_eq_true] at hok
  have hl : q1.length + 1 + p.length = ops.size := Nat.eq_of_beq_eq_true hok.1.2
  refine wp_region_any hm (wpAny_of_N (D := []) _ _ _ _ ?_)
  rw [← hl]
  refine anyN_of_P (K := Fork P n ops i q1 j q2 Q) (f := forkB ops i q1 j q2) hok.1.1 (Cont.blind Q) (fun listed D a w hf hk => ?_) p _ [] a _ (hl ▸ hok.2) ((h _ hst.drew).go a ha)
  simp only [forkB, Bool.and_eq_true, Bool.not_eq_true'] at hf
  obtain ⟨⟨⟨⟨⟨hr, hi⟩, hj⟩, hlen⟩, h1⟩, h2⟩ := hf
  have hr' : Region.ready .any ops listed = [i, j] := by simpa using hr
  have hlen' : q1.length = q2.length := Nat.eq_of_beq_eq_true hlen
  refine ⟨fun h0 => (by rw [hr'] at h0; cases h0), fun x hx => ?_⟩
  rw [hr'] at hx
  obtain ⟨⟨o1, ho1, hs1⟩, ⟨o2, ho2, hs2⟩⟩ := hk
  rcases List.mem_cons.1 hx with rfl | hx
  · exact heavy_step ho1 hi hs1 fun a w h => anyN_of_O hok.1.1 (Cont.blind Q) q1 _ D a w h1 h
  · obtain rfl : x = j := by simpa using hx
    exact heavy_step ho2 hj hs2 fun a w h => by rw [hlen']; exact anyN_of_O hok.1.1 (Cont.blind Q) q2 _ D a w h2 h⟩
theorem tf_nil {q1 q2 : List Nat} (h1 : TW P n ops D (i :: q1) Q E w) (h2 : TW P n ops D (j :: q2) Q E w) : TF P n ops i q1 j q2 D [] Q E w := ⟨fun a ha => ⟨h1.go a ha, h2.go a ha⟩⟩
theorem tf_yld {q1 q2 : List Nat} {x : Nat} (ho : nthO ops.toList x = some ⟨some d, op, ty, pos, aft, none⟩) (hl : lightAt ops x = true) (h : Yld P n ⟨some d, op, ty, pos, aft, none⟩ E v) (hd : Nat.blt d n = true) (k : TF P n ops i q1 j q2 D r Q ((d, v) :: E) w) : TF P n ops i q1 j q2 D (x :: r) Q E w := ⟨fun a ha => ⟨_, by rw [← Array.getElem?_toList, ← nthO_eq]; exact ho, by
  unfold StepO
  rw [if_pos hl]
  exact ⟨v, .inl ⟨yif_none rfl fun w _ => h.go a w ha, k.go _ (ha.put hd v)⟩⟩⟩⟩
theorem tf_ld {q1 q2 : List Nat} {x : Nat} (ho : nthO ops.toList x = some ⟨some d, op, ty, pos, aft, none⟩) (hl : lightAt ops x = true) (hst : St w0 Z L w) (h : ∀ w, St w0 Z L w → YldAt P n ⟨some d, op, ty, pos, aft, none⟩ E w v) (hd : Nat.blt d n = true) (k : TF P n ops i q1 j q2 ((x, St w0 Z L) :: D) r Q ((d, v) :: E) w) : TF P n ops i q1 j q2 D (x :: r) Q E w := ⟨fun a ha => ⟨_, by rw [← Array.getElem?_toList, ← nthO_eq]; exact ho, by
  unfold StepO
  rw [if_pos hl]
  exact ⟨v, .inr ⟨St w0 Z L, hst, yif_none rfl fun w hw => (h w hw).go a ha, k.go _ (ha.put hd v)⟩⟩⟩⟩
theorem k_TF {q1 q2 : List Nat} (h : TF P n ops i q1 j q2 D r Q E w) : TF P n ops i q1 j q2 D r Q E w := h
/-! what kind of goal stands here -/
theorem k_TW (h : TW P n ops D r Q E w) : TW P n ops D r Q E w := h
theorem k_TO {o : Oper} (h : TO P n ops D o i r Q E w) : TO P n ops D o i r Q E w := h
theorem k_draw {id : Nat} {c : Array Oper} (h : T P n (.region id c true) Q E w) : T P n (.region id c true) Q E w := h
section
variable {x y z : Operand} {t t' : TypeId} {b : BinOp} {j : Nat} {bb : Bool}
theorem ko_move (h : TO P n ops D ⟨dst, .move x, ty, pos, aft, none⟩ i r Q E w) : TO P n ops D ⟨dst, .move x, ty, pos, aft, none⟩ i r Q E w := h
theorem ko_assign (h : TO P n ops D ⟨dst, .assign x, ty, pos, aft, none⟩ i r Q E w) : TO P n ops D ⟨dst, .assign x, ty, pos, aft, none⟩ i r Q E w := h
theorem ko_pick (h : TO P n ops D ⟨dst, .pick x y z, ty, pos, aft, none⟩ i r Q E w) : TO P n ops D ⟨dst, .pick x y z, ty, pos, aft, none⟩ i r Q E w := h
theorem ko_nil (h : TO P n ops D ⟨dst, .nilCheck x, ty, pos, aft, none⟩ i r Q E w) : TO P n ops D ⟨dst, .nilCheck x, ty, pos, aft, none⟩ i r Q E w := h
theorem ko_bin (h : TO P n ops D ⟨dst, .binOp b t x y t', ty, pos, aft, none⟩ i r Q E w) : TO P n ops D ⟨dst, .binOp b t x y t', ty, pos, aft, none⟩ i r Q E w := h
theorem ko_fa (h : TO P n ops D ⟨dst, .fieldAddr t x j, ty, pos, aft, none⟩ i r Q E w) : TO P n ops D ⟨dst, .fieldAddr t x j, ty, pos, aft, none⟩ i r Q E w := h
theorem ko_load (h : TO P n ops D ⟨dst, .load t x, ty, pos, aft, none⟩ i r Q E w) : TO P n ops D ⟨dst, .load t x, ty, pos, aft, none⟩ i r Q E w := h
theorem ko_ext (h : TO P n ops D ⟨dst, .extract x j, ty, pos, aft, none⟩ i r Q E w) : TO P n ops D ⟨dst, .extract x j, ty, pos, aft, none⟩ i r Q E w := h
theorem ko_grd (h : TO P n ops D ⟨dst, op, ty, pos, aft, some (j, bb)⟩ i r Q E w) : TO P n ops D ⟨dst, op, ty, pos, aft, some (j, bb)⟩ i r Q E w := h
theorem ko_sl {lo hi mx : Option Operand} (h : TO P n ops D ⟨dst, .slice t x lo hi mx, ty, pos, aft, none⟩ i r Q E w) : TO P n ops D ⟨dst, .slice t x lo hi mx, ty, pos, aft, none⟩ i r Q E w := h
end
end
end Go.Proofs.YtkjpemkankefnaaDoor
