/-
  REGIONS WHOSE ORDER IS DRAWN: one order serves for all, if what looks at memory alone may be taken first. No program in sight.
-/
import Derived.Test.YtgbiohhpdokofaaOp
import Derived.OrdersHeld
namespace Go.Proofs.Ytgbiohhpdokofaa
open Go.RowKit

def isLoad : Op → Bool
  | .load .. | .lookup .. => true
  | .call { callee := .builtin .len, .. } | .call { callee := .builtin .cap, .. } => true
  | _ => false
def isLight : Op → Bool
  | .move _ | .assign _ | .pick .. | .nilCheck _ | .binOp .. | .unOp .. | .convert .. | .fieldAddr .. | .field .. | .indexAddr .. | .index .. | .extract .. | .slice .. | .sliceToArrayPointer .. | .build .. => true
  | o => isLoad o
def lightAt (ops : Array Oper) (i : Nat) : Bool := match ops[i]? with | some o => isLight o.op | none => false
def edgeB (ops : Array Oper) (j i : Nat) : Bool := match ops[j]? with | some o => o.after.toList.any fun e => Region.binds .any e && Nat.beq e.on i | none => false
/-- is there a load that may come ahead of number j, and behind it? -/
def needB (ops : Array Oper) (j : Nat) : Bool := (List.range ops.size).any fun i => !Nat.beq i j && (match ops[i]? with | some o => isLoad o.op | none => false) && !edgeB ops j i && !edgeB ops i j
def anyNeed (ops : Array Oper) (r : List Nat) : Bool := r.any (needB ops)
/-- the order r serves from here -/
def okB (ops : Array Oper) : Array Bool → List Nat → Bool
  | listed, [] => (Region.ready .any ops listed).isEmpty
  | listed, i :: r => (if lightAt ops i then Region.free .any ops listed i && (Region.ready .any ops listed).contains i else (Region.ready .any ops listed) == [i]) && okB ops (listed.setIfInBounds i true) r

section sem
variable {P : Program} {ops : Array Oper} {Q : Post} {S : World → Prop}
/-- what is asked behind number i: a light one leaves the world; behind another one S holds, if a load may come there -/
def Ask (ops : Array Oper) (S : World → Prop) (i : Nat) (w w' : World) : Prop := (lightAt ops i = true → w' = w) ∧ (lightAt ops i = false → needB ops i = true → S w')
def wpAnyN (P : Program) (ops : Array Oper) (Q : Post) (S : World → Prop) : Nat → Array Bool → Act → World → Prop
  | 0, listed, a, w => Region.ready .any ops listed = [] ∧ Q .normal a w
  | fuel + 1, listed, a, w =>
    (Region.ready .any ops listed = [] → Q .normal a w) ∧
    ∀ i ∈ Region.ready .any ops listed, wpOp P ops Q i (fun a' w' => Ask ops S i w w' ∧ wpAnyN P ops Q S fuel (listed.setIfInBounds i true) a' w') a w
theorem wpAny_of_N : ∀ (fuel : Nat) (listed : Array Bool) (a : Act) (w : World), wpAnyN P ops Q S fuel listed a w → wpAny P .any ops Q fuel listed a w
  | 0, _, _, _, h => h
  | fuel + 1, _, _, _, h => ⟨h.1, fun i hi => wpOp_mono (fun a' w' h' => wpAny_of_N fuel _ a' w' h'.2) (h.2 i hi)⟩
theorem edge_none {j i : Nat} {o : Oper} (hj : ops[j]? = some o) (h : ∀ e ∈ o.after, Region.binds .any e = true → e.on ≠ i) : edgeB ops j i = false := by
  unfold edgeB
  rw [hj]
  simp only [List.any_eq_false]
  intro e he hb
  simp only [Bool.and_eq_true] at hb
  exact h e (by simpa using he) hb.1 (Nat.eq_of_beq_eq_true hb.2)
theorem ready_edges {j i : Nat} {listed : Array Bool} (hj : j ∈ Region.ready .any ops listed) (hi : i ∈ Region.ready .any ops listed) : edgeB ops j i = false := by
  obtain ⟨_, oj, hoj, hall⟩ := mem_ready.1 hj
  refine edge_none hoj fun e he hb heq => ?_
  have h1 := hall e he hb
  have h0 := (mem_ready.1 hi).1
  rw [heq] at h1
  rcases Nat.lt_or_ge i listed.size with h' | h'
  · simp [h'] at h0 h1; rw [h0] at h1; cases h1
  · simp [Array.getElem?_eq_none h'] at h1
/-- what yields its value whatever comes ahead of it may come first -/
theorem anyN_first {C : World → Prop} {i : Nat} {oi : Oper} {v : Value} (hi : ops[i]? = some oi) (hl : lightAt ops i = true) (hsel : Region.noSelect ops = true)
    (hQ : ∀ c a w d u, Q (.panic c) (a.put d u) w → Q (.panic c) a w)
    (hC : ∀ j, j ≠ i → edgeB ops j i = false → edgeB ops i j = false → ∀ w', (needB ops j = true → S w') → C w') :
    ∀ (fuel : Nat) (listed : Array Bool) (a : Act) (w : World),
      (∀ j oj, ops[j]? = some oj → j ≠ i → listed.getD j true = false → (∀ e ∈ oj.after, Region.binds .any e = true → e.on ≠ i) → oi.apart ops oj = true) →
      i ∈ Region.ready .any ops listed → YieldsIf P ops C oi v a → C w →
      wpAnyN P ops Q S fuel (listed.setIfInBounds i true) (a.put oi.dst v) w → wpAnyN P ops Q S (fuel + 1) listed a w := by
  have hs := Region.noSelect_spec hsel
  have hself : ∀ w, Ask ops S i w w := fun w => ⟨fun _ => rfl, fun h => by rw [hl] at h; cases h⟩
  intro fuel
  induction fuel with
  | zero =>
    intro listed a w _ hr hy hCw H
    refine ⟨fun h => (by rw [h] at hr; cases hr), fun j hj => ?_⟩
    by_cases hji : j = i
    · subst hji; exact hy.wpOp hi hCw ⟨hself w, H⟩
    · have := ready_mono hj hji
      rw [H.1] at this
      cases this
  | succ fuel ih =>
    intro listed a w hfree hr hy hCw H
    refine ⟨fun h => (by rw [h] at hr; cases hr), fun j hj => ?_⟩
    by_cases hji : j = i
    · subst hji; exact hy.wpOp hi hCw ⟨hself w, H⟩
    · have h1 := H.2 j (ready_mono hj hji)
      obtain ⟨hjun, oj, hoj, hall⟩ := mem_ready.1 hj
      have hnot : ∀ e ∈ oj.after, Region.binds .any e = true → e.on ≠ i := fun e he hb heq => by
        have h1 := hall e he hb
        have h0 := (mem_ready.1 hr).1
        rw [heq] at h1
        rcases Nat.lt_or_ge i listed.size with h' | h'
        · simp [h'] at h0 h1; rw [h0] at h1; cases h1
        · simp [Array.getElem?_eq_none h'] at h1
      have h2 := wpOp_putIf hoj (hfree j oj hoj hji hjun hnot) (fun cs b => hs i oi cs b hi) (fun cs b => hs j oj cs b hoj) (fun c a w => hQ c a w _ _) hy h1
      have hfree' : ∀ k ok, ops[k]? = some ok → k ≠ i → (listed.setIfInBounds j true).getD k true = false →
          (∀ e ∈ ok.after, Region.binds .any e = true → e.on ≠ i) → oi.apart ops ok = true := fun k ok hk hki hun hno => by
        refine hfree k ok hk hki ?_ hno
        by_cases hjk : j = k
        · subst hjk; exact hjun
        · rw [getD_set_ne true hjk] at hun; exact hun
      have he1 := ready_edges hj hr
      have he2 := ready_edges hr hj
      refine wpOp_mono (fun a' w' h3 => ⟨h3.2.1, ih (listed.setIfInBounds j true) a' w' hfree' (ready_mono hr (Ne.symm hji)) h3.1 ?_ ?_⟩) h2
      · cases hlj : lightAt ops j
        · exact hC j hji he1 he2 w' (h3.2.1.2 hlj)
        · rw [h3.2.1.1 hlj]; exact hCw
      · rw [Array.setIfInBounds_comm _ _ hji]
        exact h3.2.2
/-- one operation of the order that was chosen -/
def StepO (P : Program) (ops : Array Oper) (Q : Post) (S : World → Prop) (o : Oper) (i : Nat) (K : Act → World → Prop) (a : Act) (w : World) : Prop :=
  if lightAt ops i = true then ∃ v, (YieldsIf P ops (fun _ => True) o v a ∨ (isLoad o.op = true ∧ S w ∧ YieldsIf P ops S o v a)) ∧ K (a.put o.dst v) w
  else if Region.wanted o (yielded ops a.tmps) then o.wp P a w (fun a' w' => (needB ops i = true → S w') ∧ K a' w') Q ∨ (o.asks P a w ∧ LetsOut Q)
  else (needB ops i = true → S w) ∧ K (a.put o.dst undef) w
def wpO (P : Program) (ops : Array Oper) (Q : Post) (S : World → Prop) : List Nat → Act → World → Prop
  | [], a, w => Q .normal a w
  | i :: r, a, w => ∃ o, ops[i]? = some o ∧ StepO P ops Q S o i (wpO P ops Q S r) a w
theorem needB_of {i j : Nat} {oi : Oper} (hi : ops[i]? = some oi) (hl : isLoad oi.op = true) (hne : j ≠ i) (h1 : edgeB ops j i = false) (h2 : edgeB ops i j = false) : needB ops j = true := by
  unfold needB
  rw [List.any_eq_true]
  refine ⟨i, List.mem_range.2 (Array.getElem?_eq_some_iff.1 hi).1, ?_⟩
  have : Nat.beq i j = false := by
    cases hb : Nat.beq i j
    · rfl
    · exact absurd (Nat.eq_of_beq_eq_true hb).symm hne
  simp [this, hi, hl, h1, h2]
theorem anyN_of_O (hsel : Region.noSelect ops = true) (hQ : ∀ c a w d u, Q (.panic c) (a.put d u) w → Q (.panic c) a w) :
    ∀ (r : List Nat) (listed : Array Bool) (a : Act) (w : World), okB ops listed r = true → wpO P ops Q S r a w → wpAnyN P ops Q S r.length listed a w
  | [], listed, a, w, hok, h => ⟨by simpa [okB] using hok, h⟩
  | i :: r, listed, a, w, hok, h => by
    obtain ⟨o, ho, hst⟩ := h
    simp only [okB, Bool.and_eq_true] at hok
    obtain ⟨h1, h2⟩ := hok
    have ih := fun a w => anyN_of_O hsel hQ r (listed.setIfInBounds i true) a w h2
    unfold StepO at hst
    cases hl : lightAt ops i
    · rw [hl, if_neg (by simp)] at h1 hst
      have hr : Region.ready .any ops listed = [i] := by simpa using h1
      refine ⟨fun h0 => (by rw [hr] at h0; cases h0), fun j hj => ?_⟩
      rw [hr] at hj
      obtain rfl : j = i := by simpa using hj
      unfold wpOp
      simp only [ho]
      split
      · rename_i hw
        rw [if_pos hw] at hst
        exact hst.imp (Oper.wp_mono (fun a' w' h => ⟨⟨fun h0 => absurd h0 (by simp [hl]), fun _ => h.1⟩, ih a' w' h.2⟩)) id
      · rename_i hw
        rw [if_neg hw] at hst
        exact ⟨⟨fun h0 => absurd h0 (by simp [hl]), fun _ => hst.1⟩, ih _ _ hst.2⟩
    · rw [hl, if_pos rfl] at h1 hst
      simp only [Bool.and_eq_true] at h1
      obtain ⟨v, hy, hk⟩ := hst
      have hr : i ∈ Region.ready .any ops listed := by simpa using h1.2
      rcases hy with hy | ⟨hload, hSw, hy⟩
      · exact anyN_first (C := fun _ => True) ho hl hsel hQ (fun _ _ _ _ _ _ => trivial) r.length listed a w (Region.free_spec ho h1.1) hr hy trivial (ih _ _ hk)
      · exact anyN_first (C := S) ho hl hsel hQ (fun j hji e1 e2 w' h => h (needB_of ho hload hji e1 e2)) r.length listed a w (Region.free_spec ho h1.1) hr hy hSw (ih _ _ hk)
end sem

theorem Cont.blind {P : Program} {n : Nat} : ∀ (Q : Cont) (c : List PanicEntry) (a : Act) (w : World) (d : Option Tmp) (u : Value), Q.post P n (.panic c) (a.put d u) w → Q.post P n (.panic c) a w
  | .body _ _, _, _, _, d, _, h => by cases d <;> exact h
  | .seq _ k, c, a, w, d, u, h => Cont.blind k c a w d u h
  | .blk _ k, c, a, w, d, u, h => Cont.blind k c a w d u h
  | .loop _ _ _ _ _ k, c, a, w, d, u, h => Cont.blind k c a w d u h
  | .cut _ _ _ k, c, a, w, d, u, h => Cont.blind k c a w d u h
  | .step _ k, c, a, w, d, u, h => Cont.blind k c a w d u h

def nthO : List Oper → Nat → Option Oper
  | [], _ => none
  | o :: _, 0 => some o
  | _ :: l, i + 1 => nthO l i
theorem nthO_eq : ∀ (l : List Oper) (i : Nat), nthO l i = l[i]?
  | [], i => by simp [nthO]
  | o :: l, 0 => by simp [nthO]
  | o :: l, i + 1 => by simp [nthO, nthO_eq l i]
/-- the rest of the order -/
structure TW (P : Program) (n : Nat) (ops : Array Oper) (S : World → Prop) (r : List Nat) (Q : Cont) (E : Env) (w : World) : Prop where
  go : ∀ a, EnvOk n E a → wpO P ops (Q.post P n) S r a w
/-- its first operation is o -/
structure TO (P : Program) (n : Nat) (ops : Array Oper) (S : World → Prop) (o : Oper) (i : Nat) (r : List Nat) (Q : Cont) (E : Env) (w : World) : Prop where
  go : ∀ a, EnvOk n E a → StepO P ops (Q.post P n) S o i (wpO P ops (Q.post P n) S r) a w

section
variable {P : Program} {n : Nat} {Q : Cont} {E : Env} {w0 w : World} {Z : Nat → Prop} {L : List Assn} {ops : Array Oper} {S : World → Prop} {r : List Nat} {i : Nat} {o : Oper} {v : Value}
variable {d : Nat} {ty : TypeId} {pos : String} {aft : Array Edge} {op : Op}
def drawB (ops : Array Oper) (r : List Nat) : Bool := Region.noSelect ops && Nat.beq r.length ops.size && okB ops (Array.replicate ops.size false) r
theorem t_draw {id : Nat} (r : List Nat) (hm : P.follows .mixedOrders = true) (hok : drawB ops r = true) (hst : St w0 Z L w) (h : ∀ w, St w0 Z L w → TW P n ops (St w0 Z L) r Q E w) : T P n (.region id ops true) Q E w := ⟨fun a ha => by
  simp only [drawB, Bool.and_eq_true] at hok
  have hl : r.length = ops.size := Nat.eq_of_beq_eq_true hok.1.2
  refine wp_region_any hm (wpAny_of_N (S := St w0 Z L) _ _ _ _ ?_)
  rw [← hl]
  exact anyN_of_O hok.1.1 (Cont.blind Q) r _ a _ (hl ▸ hok.2) ((h _ hst.drew).go a ha)⟩
theorem tw_nil (h : N P n Q E w) : TW P n ops S [] Q E w := ⟨fun a ha => h.go a ha⟩
theorem tw_get (ho : nthO ops.toList i = some o) (h : TO P n ops S o i r Q E w) : TW P n ops S (i :: r) Q E w := ⟨fun a ha => ⟨o, by rw [← Array.getElem?_toList, ← nthO_eq]; exact ho, h.go a ha⟩⟩
theorem yif_none {C : World → Prop} {o : Oper} {a : Act} (hg : o.guard = none) (h : ∀ w, C w → (execOp a.eval o).run P w = .ok (.value v) w) : YieldsIf P ops C o v a := .inl ⟨by simp [Region.wanted, hg], h⟩
theorem to_yld (hl : lightAt ops i = true) (h : Yld P n ⟨some d, op, ty, pos, aft, none⟩ E v) (hd : Nat.blt d n = true) (k : TW P n ops S r Q ((d, v) :: E) w) : TO P n ops S ⟨some d, op, ty, pos, aft, none⟩ i r Q E w := ⟨fun a ha => by
  unfold StepO
  rw [if_pos hl]
  exact ⟨v, .inl (yif_none rfl fun w _ => h.go a w ha), k.go _ (ha.put hd v)⟩⟩
theorem to_ld (hl : lightAt ops i = true) (hld : isLoad op = true) (hS : S w) (h : ∀ w, S w → YldAt P n ⟨some d, op, ty, pos, aft, none⟩ E w v) (hd : Nat.blt d n = true) (k : TW P n ops S r Q ((d, v) :: E) w) : TO P n ops S ⟨some d, op, ty, pos, aft, none⟩ i r Q E w := ⟨fun a ha => by
  unfold StepO
  rw [if_pos hl]
  exact ⟨v, .inr ⟨hld, hS, yif_none rfl fun w hw => (h w hw).go a ha⟩, k.go _ (ha.put hd v)⟩⟩
/-- an operation that turns the world, or makes memory, or calls -/
def KO (P : Program) (n : Nat) (ops : Array Oper) (S : World → Prop) (i : Nat) (r : List Nat) (Q : Cont) : Act → World → Prop := fun a w => (needB ops i = true → S w) ∧ wpO P ops (Q.post P n) S r a w
theorem upon_then {R : Act → World → Prop} {o : Oper} {a : Act} {K : Act → World → Prop} {Q : Post} (h : o.wp P a w K (Exit.then R Q)) : o.wp P a w K Q := by
  unfold Oper.wp at *
  generalize (execOp a.eval o).run P w = x at *
  cases x with
  | ok n w' => cases n <;> exact h
  | halt x w' => cases x <;> exact h
theorem to_heavy (hl : lightAt ops i = false) (h : TL P n ops [o] (.step (KO P n ops S i r Q) Q) E w) : TO P n ops S o i r Q E w := ⟨fun a ha => by
  have h1 := h.go a ha
  unfold StepO
  rw [hl, if_neg (by simp)]
  unfold wpList at h1
  split
  · rename_i hw
    rw [if_pos hw] at h1
    exact h1.imp upon_then id
  · rename_i hw
    rw [if_neg hw] at h1
    exact h1⟩
theorem n_step0 (hn : needB ops i = false) (h : TW P n ops S r Q E w) : N P n (.step (KO P n ops S i r Q) Q) E w := ⟨fun a ha => ⟨fun h0 => absurd h0 (by simp [hn]), h.go a ha⟩⟩
theorem n_step (hS : needB ops i = true → S w) (h : TW P n ops S r Q E w) : N P n (.step (KO P n ops S i r Q) Q) E w := ⟨fun a ha => ⟨hS, h.go a ha⟩⟩

/-! guards -/
variable {dst : Option Tmp} {j dj : Nat} {b b' : Bool}
theorem yielded_of {a : Act} (ha : EnvOk n E a) (hj : (ops[j]?).bind (·.dst) = some dj) (hv : eget E dj = some (.bool b)) : yielded ops a.tmps j = some b := by
  unfold yielded
  rw [hj]
  simp [ha.get _ _ hv]
theorem to_guard_on (hj : (ops[j]?).bind (·.dst) = some dj) (hv : eget E dj = some (.bool b))
    (k : TO P n ops S ⟨dst, op, ty, pos, aft, none⟩ i r Q E w) : TO P n ops S ⟨dst, op, ty, pos, aft, some (j, b)⟩ i r Q E w := ⟨fun a ha => by
  have h := k.go a ha
  have hy := yielded_of ha hj hv
  have hw : Region.wanted ⟨dst, op, ty, pos, aft, some (j, b)⟩ (yielded ops a.tmps) = true := by simp [Region.wanted, hy]
  unfold StepO at h ⊢
  split
  · rename_i hl
    rw [if_pos hl] at h
    obtain ⟨v, h1, h2⟩ := h
    refine ⟨v, h1.imp (fun h => ?_) (fun h => ⟨h.1, h.2.1, ?_⟩), h2⟩
    · rcases h with h | h
      · exact .inl ⟨hw, h.2⟩
      · have h3 := h.1; simp [Region.wanted] at h3
    · rcases h.2.2 with h | h
      · exact .inl ⟨hw, h.2⟩
      · have h3 := h.1; simp [Region.wanted] at h3
  · rename_i hl
    rw [if_neg hl] at h
    rw [if_pos (by simp [Region.wanted])] at h
    exact h⟩
theorem to_off {o : Oper} (hl : lightAt ops i = true) (hw : ∀ a, EnvOk n E a → Region.wanted o (yielded ops a.tmps) = false) (hdst : o.dst = some d) (hd : Nat.blt d n = true) (k : TW P n ops S r Q ((d, undef) :: E) w) : TO P n ops S o i r Q E w := ⟨fun a ha => by
  unfold StepO
  rw [if_pos hl, hdst]
  exact ⟨undef, .inl (.inr ⟨hw a ha, rfl⟩), k.go _ (ha.put hd undef)⟩⟩
theorem to_off_heavy {o : Oper} (hl : lightAt ops i = false) (hw : ∀ a, EnvOk n E a → Region.wanted o (yielded ops a.tmps) = false) (hdst : o.dst = some d) (hd : Nat.blt d n = true) (hS : needB ops i = true → S w) (k : TW P n ops S r Q ((d, undef) :: E) w) : TO P n ops S o i r Q E w := ⟨fun a ha => by
  unfold StepO
  rw [if_neg (by simp [hl]), if_neg (by simp [hw a ha]), hdst]
  exact ⟨hS, k.go _ (ha.put hd undef)⟩⟩
theorem wanted_off {a : Act} (ha : EnvOk n E a) (hj : (ops[j]?).bind (·.dst) = some dj) (hv : eget E dj = some (.bool b)) (hb : (b == b') = false) : Region.wanted ⟨dst, op, ty, pos, aft, some (j, b')⟩ (yielded ops a.tmps) = false := by
  simp only [Region.wanted, yielded_of ha hj hv]
  cases b <;> cases b' <;> simp_all
theorem to_guard_undef (hl : lightAt ops i = true) (hj : (ops[j]?).bind (·.dst) = some dj) (hv : eget E dj = some undef) (hd : Nat.blt d n = true)
    (k : TW P n ops S r Q ((d, undef) :: E) w) : TO P n ops S ⟨some d, op, ty, pos, aft, some (j, b')⟩ i r Q E w :=
  to_off hl (fun a ha => by
    have hy : yielded ops a.tmps j = none := by
      unfold yielded
      rw [hj]
      simp [ha.get _ _ hv, undef]
    simp [Region.wanted, hy]) rfl hd k
theorem to_guard_t (hl : lightAt ops i = true) (hj : (ops[j]?).bind (·.dst) = some dj) (hv : eget E dj = some (.bool b)) (hd : Nat.blt d n = true)
    (ht : b = true → TO P n ops S ⟨some d, op, ty, pos, aft, none⟩ i r Q ((dj, .bool true) :: E) w) (hf : b = false → TW P n ops S r Q ((d, undef) :: (dj, .bool false) :: E) w) :
    TO P n ops S ⟨some d, op, ty, pos, aft, some (j, true)⟩ i r Q E w := by
  have h0 : ∀ c, eget ((dj, Value.bool c) :: E) dj = some (.bool c) := fun c => by rw [eget_cons, if_pos rfl]
  cases hb : b
  · exact ⟨fun a ha => (to_off (E := (dj, .bool false) :: E) hl (fun a ha => wanted_off ha hj (h0 false) rfl) rfl hd (hf hb)).go a (env_case hv hb ha)⟩
  · exact ⟨fun a ha => (to_guard_on hj (h0 true) (ht hb)).go a (env_case hv hb ha)⟩
theorem to_guard_f (hl : lightAt ops i = true) (hj : (ops[j]?).bind (·.dst) = some dj) (hv : eget E dj = some (.bool b)) (hd : Nat.blt d n = true)
    (hf : b = false → TO P n ops S ⟨some d, op, ty, pos, aft, none⟩ i r Q ((dj, .bool false) :: E) w) (ht : b = true → TW P n ops S r Q ((d, undef) :: (dj, .bool true) :: E) w) :
    TO P n ops S ⟨some d, op, ty, pos, aft, some (j, false)⟩ i r Q E w := by
  have h0 : ∀ c, eget ((dj, Value.bool c) :: E) dj = some (.bool c) := fun c => by rw [eget_cons, if_pos rfl]
  cases hb : b
  · exact ⟨fun a ha => (to_guard_on hj (h0 false) (hf hb)).go a (env_case hv hb ha)⟩
  · exact ⟨fun a ha => (to_off (E := (dj, .bool true) :: E) hl (fun a ha => wanted_off ha hj (h0 true) rfl) rfl hd (ht hb)).go a (env_case hv hb ha)⟩
/-! what kind of goal stands here -/
theorem k_TW (h : TW P n ops S r Q E w) : TW P n ops S r Q E w := h
theorem k_TO {o : Oper} (h : TO P n ops S o i r Q E w) : TO P n ops S o i r Q E w := h
theorem k_draw {id : Nat} {c : Array Oper} (h : T P n (.region id c true) Q E w) : T P n (.region id c true) Q E w := h
section
variable {x y z : Operand} {t t' : TypeId} {b : BinOp} {j : Nat} {bb : Bool}
theorem ko_move (h : TO P n ops S ⟨dst, .move x, ty, pos, aft, none⟩ i r Q E w) : TO P n ops S ⟨dst, .move x, ty, pos, aft, none⟩ i r Q E w := h
theorem ko_assign (h : TO P n ops S ⟨dst, .assign x, ty, pos, aft, none⟩ i r Q E w) : TO P n ops S ⟨dst, .assign x, ty, pos, aft, none⟩ i r Q E w := h
theorem ko_pick (h : TO P n ops S ⟨dst, .pick x y z, ty, pos, aft, none⟩ i r Q E w) : TO P n ops S ⟨dst, .pick x y z, ty, pos, aft, none⟩ i r Q E w := h
theorem ko_nil (h : TO P n ops S ⟨dst, .nilCheck x, ty, pos, aft, none⟩ i r Q E w) : TO P n ops S ⟨dst, .nilCheck x, ty, pos, aft, none⟩ i r Q E w := h
theorem ko_bin (h : TO P n ops S ⟨dst, .binOp b t x y t', ty, pos, aft, none⟩ i r Q E w) : TO P n ops S ⟨dst, .binOp b t x y t', ty, pos, aft, none⟩ i r Q E w := h
theorem ko_fa (h : TO P n ops S ⟨dst, .fieldAddr t x j, ty, pos, aft, none⟩ i r Q E w) : TO P n ops S ⟨dst, .fieldAddr t x j, ty, pos, aft, none⟩ i r Q E w := h
theorem ko_load (h : TO P n ops S ⟨dst, .load t x, ty, pos, aft, none⟩ i r Q E w) : TO P n ops S ⟨dst, .load t x, ty, pos, aft, none⟩ i r Q E w := h
theorem ko_ext (h : TO P n ops S ⟨dst, .extract x j, ty, pos, aft, none⟩ i r Q E w) : TO P n ops S ⟨dst, .extract x j, ty, pos, aft, none⟩ i r Q E w := h
theorem ko_grd (h : TO P n ops S ⟨dst, op, ty, pos, aft, some (j, bb)⟩ i r Q E w) : TO P n ops S ⟨dst, op, ty, pos, aft, some (j, bb)⟩ i r Q E w := h
theorem ko_sl {lo hi mx : Option Operand} (h : TO P n ops S ⟨dst, .slice t x lo hi mx, ty, pos, aft, none⟩ i r Q E w) : TO P n ops S ⟨dst, .slice t x lo hi mx, ty, pos, aft, none⟩ i r Q E w := h
end
end
end Go.Proofs.Ytgbiohhpdokofaa
