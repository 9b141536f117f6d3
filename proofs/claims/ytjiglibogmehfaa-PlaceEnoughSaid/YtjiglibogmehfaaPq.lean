/-
  Places: plain laws of ways and needs. No program in sight.
-/
import Derived.Test.YtjiglibogmehfaaPp
import Derived.Test.YtjiglibogmehfaaPh
set_option linter.all false
set_option maxRecDepth 100000
namespace Go.Proofs.Ytjiglibogmehfaa
open Go.RowKit

/-- a claim's place in row k -/
@[reducible] def pa (c k : Nat) : PlG := ⟨(k : Nat), ((c / 2 ^ k : Nat) : Int)⟩
theorem pa_inj {c c' k k' : Nat} (h : pa c k = pa c' k') : k = k' ∧ c / 2 ^ k = c' / 2 ^ k := by
  unfold pa at h; rw [PlG.mk.injEq] at h
  obtain rfl : k = k' := by omega
  exact ⟨rfl, by omega⟩
theorem claim_tree {n c : Nat} (h : c < n) (hn : n ≤ 1048576) : ∃ r : Nat, treeP n c = pa c r ∧ r ≤ 20 ∧ pa c r ∈ treesN n ∧ treeB n c = true := by
  obtain ⟨h1, h2⟩ := tree_found (n := n) (c := c) (by omega) (by omega)
  obtain ⟨h3, _⟩ := treeP_mem h2
  obtain ⟨r, g, e, k2, k3, k4⟩ := tree_mem hn h3
  have h4 : treeP n c = pa c r := by
    rw [e] at h1
    have := (treeQ_iff rfl rfl).1 h1
    rw [e]; unfold pa; rw [this]
  exact ⟨r, h4, k4, by rw [← h4]; exact h3, h2⟩
theorem pow_div {c k r : Nat} (h : k ≤ r) : c / 2 ^ r = c / 2 ^ k / 2 ^ (r - k) := by
  rw [Nat.div_div_eq_div_mul, ← Nat.pow_add, Nat.add_sub_cancel' h]
theorem same_up {c c' k r : Nat} (h : k ≤ r) (e : c / 2 ^ k = c' / 2 ^ k) : c / 2 ^ r = c' / 2 ^ r := by
  rw [pow_div h, e, ← pow_div h]
theorem same_tree {n c c' k r : Nat} (hn : n ≤ 1048576) (ht : pa c' r ∈ treesN n) (hk : k ≤ r) (e : c / 2 ^ k = c' / 2 ^ k) : treeP n c = pa c' r := 
  (treeP_of hn ht ((treeQ_iff rfl rfl).2 (same_up hk e))).1
theorem parent_pa {c k : Nat} (hc : c ≤ 1048576) (hk : k ≤ 100) : parentG (pa c k) = pa c (k + 1) := by
  unfold parentG pa
  have : c / 2 ^ k ≤ c := Nat.div_le_self _ _
  rw [PlG.mk.injEq, IntKind.wrap_u8]
  refine ⟨by simp only; omega, ?_⟩
  rw [Nat.pow_succ, ← Nat.div_div_eq_div_mul]; simp
/-- with a place all above it are there -/
def Cl (n : Nat) (ks : List PlG) : Prop := ∀ p ∈ ks, ∃ c k r : Nat, c < n ∧ p = pa c k ∧ k ≤ r ∧ pa c r ∈ treesN n ∧ ∀ k', k ≤ k' → k' ≤ r → pa c k' ∈ ks
theorem climb_mem {n c r : Nat} (hn : n ≤ 1048576) (hc : c < n) (hr : pa c r ∈ treesN n) (hr20 : r ≤ 20) (ks0 : List PlG) (h0 : Cl n ks0) : ∀ (f k : Nat) (ks : List PlG), k ≤ r → r < k + f → (∀ q ∈ ks, q ∈ ks0 ∨ q.row < (k : Nat)) → (∀ q ∈ ks0, q ∈ ks) →
    ∀ q, q ∈ climb (pa c r) f (pa c k) ks ↔ q ∈ ks ∨ ∃ k', k ≤ k' ∧ k' ≤ r ∧ q = pa c k'
  | 0, k, ks, h1, h2, h3, h4, q => by omega
  | f + 1, k, ks, h1, h2, h3, h4, q => by
    unfold climb
    by_cases hm : pa c k ∈ ks
    · rw [if_pos hm]
      have hm0 : pa c k ∈ ks0 := by
        rcases h3 _ hm with h | h
        · exact h
        · simp only at h; omega
      obtain ⟨c', k1, r', c1, e1, l1, t1, all⟩ := h0 _ hm0
      obtain ⟨rfl, e2⟩ := pa_inj e1
      have e3 := same_tree hn t1 l1 e2
      have e4 := same_tree (c := c) (k := k) hn hr h1 rfl
      rw [e3] at e4
      obtain ⟨rfl, e5⟩ := pa_inj e4
      constructor
      · exact .inl
      · rintro (h | ⟨k', a1, a2, rfl⟩)
        · exact h
        · have h6 := all k' a1 a2
          have e7 : pa c k' = pa c' k' := by unfold pa; rw [same_up a1 e2]
          rw [e7]; exact h4 _ h6
    · rw [if_neg hm]
      by_cases ht : pa c k = pa c r
      · obtain ⟨e1, _⟩ := pa_inj ht
        subst e1
        rw [if_pos rfl]
        simp only [List.mem_append, List.mem_singleton]
        constructor
        · rintro (h | h)
          · exact .inl h
          · exact .inr ⟨k, Nat.le_refl _, Nat.le_refl _, h⟩
        · rintro (h | ⟨k', a1, a2, rfl⟩)
          · exact .inl h
          · obtain rfl : k' = k := by omega
            exact .inr rfl
      · rw [if_neg ht, parent_pa (by omega) (by omega)]
        have hkr : k ≠ r := fun e => ht (by rw [e])
        rw [climb_mem hn hc hr hr20 ks0 h0 f (k + 1) (ks ++ [pa c k]) (by omega) (by omega) (fun q hq => by
          rcases List.mem_append.1 hq with hq | hq
          · rcases h3 q hq with h | h
            · exact .inl h
            · right; omega
          · right; rw [List.mem_singleton] at hq; subst hq; simp only; omega) (fun q hq => List.mem_append_left _ (h4 q hq))]
        simp only [List.mem_append, List.mem_singleton]
        constructor
        · rintro ((h | h) | ⟨k', a1, a2, rfl⟩)
          · exact .inl h
          · exact .inr ⟨k, Nat.le_refl _, h1, h⟩
          · exact .inr ⟨k', by omega, a2, rfl⟩
        · rintro (h | ⟨k', a1, a2, rfl⟩)
          · exact .inl (.inl h)
          · by_cases e : k' = k
            · subst e; exact .inl (.inr rfl)
            · exact .inr ⟨k', by omega, a2, rfl⟩
theorem climb_nodup (t : PlG) : ∀ (f : Nat) (p : PlG) (ks : List PlG), ks.Nodup → (climb t f p ks).Nodup
  | 0, p, ks, h => h
  | f + 1, p, ks, h => by
    unfold climb
    have h2 : p ∉ ks → (ks ++ [p]).Nodup := fun hp => by
      rw [List.nodup_append]
      exact ⟨h, by simp, fun a ha b hb e => by rw [List.mem_singleton] at hb; subst hb; subst e; exact hp ha⟩
    split
    · exact h
    · rename_i hp
      split
      · exact h2 hp
      · exact climb_nodup t f _ _ (h2 hp)
theorem waysK_nodup (n : Int) : ∀ (cs : List UInt64) (ks : List PlG), ks.Nodup → (waysK n cs ks).Nodup
  | [], ks, h => h
  | c :: r, ks, h => by unfold waysK; exact waysK_nodup n r _ (climb_nodup _ _ _ _ h)
/-- the ways of claims -/
def Way (n : Nat) (cs : List UInt64) (q : PlG) : Prop := ∃ c ∈ cs, ∃ k r : Nat, k ≤ r ∧ pa c.toNat r ∈ treesN n ∧ q = pa c.toNat k
theorem waysK_mem {n : Nat} (hn : n ≤ 1048576) : ∀ (cs : List UInt64) (ks : List PlG), (∀ c ∈ cs, c.toNat < n) → Cl n ks → (∀ q, q ∈ waysK n cs ks ↔ q ∈ ks ∨ Way n cs q) ∧ Cl n (waysK n cs ks)
  | [], ks, _, h => ⟨fun q => by simp [waysK, Way], h⟩
  | c :: cs, ks, hc, h => by
    have hcn := hc c (by simp)
    obtain ⟨r, e1, e2, e3, e4⟩ := claim_tree hcn hn
    have hm := climb_mem hn hcn e3 e2 ks h 21 0 ks (by omega) (by omega) (fun q hq => .inl hq) (fun q hq => hq)
    have e0 : pa c.toNat 0 = ⟨0, (c.toNat : Int)⟩ := by simp [pa]
    have hcl : Cl n (climb (pa c.toNat r) 21 (pa c.toNat 0) ks) := fun p hp => by
      rcases (hm p).1 hp with hp | ⟨k', a1, a2, rfl⟩
      · obtain ⟨c', k, r', b1, b2, b3, b4, b5⟩ := h p hp
        exact ⟨c', k, r', b1, b2, b3, b4, fun k' d1 d2 => (hm _).2 (.inl (b5 k' d1 d2))⟩
      · exact ⟨c.toNat, k', r, hcn, rfl, a2, e3, fun k'' d1 d2 => (hm _).2 (.inr ⟨k'', by omega, d2, rfl⟩)⟩
    unfold waysK
    rw [e1, ← e0]
    obtain ⟨i1, i2⟩ := waysK_mem hn cs _ (fun c hc' => hc c (by simp [hc'])) hcl
    refine ⟨fun q => ?_, i2⟩
    rw [i1, hm]
    constructor
    · rintro ((h1 | ⟨k', a1, a2, rfl⟩) | ⟨c', b1, b2⟩)
      · exact .inl h1
      · exact .inr ⟨c, by simp, k', r, a2, e3, rfl⟩
      · exact .inr ⟨c', by simp [b1], b2⟩
    · rintro (h1 | ⟨c', b1, k, r', b2, b3, rfl⟩)
      · exact .inl (.inl h1)
      · rcases List.mem_cons.1 b1 with rfl | b1
        · have e5 := same_tree (c := c'.toNat) (k := k) hn b3 b2 rfl
          rw [e1] at e5
          obtain ⟨rfl, _⟩ := pa_inj e5
          exact .inl (.inr ⟨k, by omega, b2, rfl⟩)
        · exact .inr ⟨c', b1, k, r', b2, b3, rfl⟩
theorem way_iff {n : Nat} (hn : n ≤ 1048576) {cs : List UInt64} (hc : ∀ c ∈ cs, c.toNat < n) (q : PlG) : q ∈ waysK n cs [] ↔ Way n cs q := by
  have := (waysK_mem hn cs [] hc (fun p hp => by cases hp)).1 q
  simpa using this
theorem mayC_lt {n : Int} {cs : List UInt64} (h : mayB n cs = true) : ∀ c ∈ cs, (c.toNat : Int) < n := fun c hc => by
  unfold mayB at h
  have h' : MayC n cs := by simpa using h
  obtain ⟨j, hj, rfl⟩ := List.mem_iff_getElem.1 hc
  have := (h'.1 j hj).1
  rw [ixd_eq (by omega)] at this
  simpa using this
/-! a list that is kept sorted -/
def withL : List PlG → PlG → List PlG
  | [], p => [p]
  | a :: r, p => if cmpP a p < 0 then a :: withL r p else if a = p then a :: r else p :: a :: r
def Rising (l : List PlG) : Prop := l.Pairwise fun a b => cmpP a b < 0
theorem cmp_trans {a b c : PlG} (h1 : cmpP a b < 0) (h2 : cmpP b c < 0) : cmpP a c < 0 := by
  rw [cmpP_neg] at *; omega
theorem cmp_tot {a b : PlG} (h1 : ¬ cmpP a b < 0) (h2 : a ≠ b) : cmpP b a < 0 := by
  rw [cmpP_neg] at *
  have : a.row ≠ b.row ∨ a.at_ ≠ b.at_ := by
    by_cases h : a.row = b.row
    · right; intro h'; exact h2 (by cases a; cases b; simp_all)
    · exact .inl h
  omega
theorem cmp_ne {a b : PlG} (h : cmpP a b < 0) : a ≠ b := fun e => by subst e; rw [cmpP_neg] at h; omega
theorem withL_mem {p q : PlG} : ∀ {l : List PlG}, q ∈ withL l p ↔ q ∈ l ∨ q = p
  | [] => by simp [withL]
  | a :: r => by
    unfold withL
    split
    · rw [List.mem_cons, withL_mem, List.mem_cons, or_assoc]
    · split
      · rename_i h; subst h
        constructor
        · exact .inl
        · rintro (h | rfl)
          · exact h
          · simp
      · simp only [List.mem_cons]
        constructor
        · rintro (h | h)
          · exact .inr h
          · exact .inl h
        · rintro (h | h)
          · exact .inr h
          · exact .inl h
theorem withL_rising {p : PlG} : ∀ {l : List PlG}, Rising l → Rising (withL l p)
  | [], _ => by simp [withL, Rising]
  | a :: r, h => by
    obtain ⟨h1, h2⟩ := List.pairwise_cons.1 h
    unfold withL
    split
    · rename_i hl
      refine List.pairwise_cons.2 ⟨fun b hb => ?_, withL_rising h2⟩
      rcases withL_mem.1 hb with hb | rfl
      · exact h1 b hb
      · exact hl
    · rename_i hl
      split
      · exact h
      · rename_i hne
        have h3 := cmp_tot hl hne
        refine List.pairwise_cons.2 ⟨fun b hb => ?_, h⟩
        rcases List.mem_cons.1 hb with rfl | hb
        · exact h3
        · exact cmp_trans h3 (h1 b hb)
theorem withL_len {p : PlG} : ∀ {l : List PlG}, (withL l p).length ≤ l.length + 1
  | [] => by simp [withL]
  | a :: r => by
    have := withL_len (p := p) (l := r)
    unfold withL
    split
    · simp only [List.length_cons]; omega
    · split <;> simp
theorem rising_nodup {l : List PlG} (h : Rising l) : l.Nodup := h.imp fun h => cmp_ne h
theorem sortP_id {l : List PlG} (h : Rising l) : sortP l = l := by
  refine List.mergeSort_of_pairwise (h.imp fun {a b} h => ?_)
  rw [ltP]
  rw [cmpP_neg] at h
  simp only [Bool.not_eq_true', decide_eq_false_iff_not]; omega
theorem rising_eq {l k : List PlG} (h : Rising l) (hk : k.Nodup) (hm : ∀ q, q ∈ l ↔ q ∈ k) : l = sortP k := by
  rw [← sortP_eq ((List.perm_ext_iff_of_nodup (rising_nodup h) hk).2 hm), sortP_id h]
theorem sortP_rising {k : List PlG} (hk : k.Nodup) : Rising (sortP k) := by
  have tr : ∀ a b c : PlG, (!(Go.Proofs.ltOf cmpP) b a) = true → (!(Go.Proofs.ltOf cmpP) c b) = true → (!(Go.Proofs.ltOf cmpP) c a) = true := fun a b c h1 h2 => by
    simp only [Bool.not_eq_true'] at *
    exact swoP.ntrans c b a h2 h1
  have to : ∀ a b : PlG, ((!(Go.Proofs.ltOf cmpP) b a) || (!(Go.Proofs.ltOf cmpP) a b)) = true := fun a b => by
    rw [ltP, ltP]
    simp only [Bool.or_eq_true, Bool.not_eq_true', decide_eq_false_iff_not]; omega
  have p1 := List.pairwise_mergeSort tr to k
  have p2 : (sortP k).Nodup := (sortP_perm k).symm.nodup hk
  refine (p1.and p2).imp fun {a b} ⟨h1, h2⟩ => ?_
  rw [ltP] at h1
  simp only [Bool.not_eq_true', decide_eq_false_iff_not] at h1
  refine cmp_tot (fun h => h1 ?_) (fun e => h2 e.symm)
  rw [cmpP_neg] at h; exact h
/-! the document's ways, needs -/
def wayL (n : Nat) (c : Nat) : List PlG := (List.range ((treeP n c).row.toNat + 1)).map (pa c)
def refW (n : Nat) (cs : List UInt64) (l : List PlG) : List PlG := cs.foldl (fun l c => (wayL n c.toNat).foldl withL l) l
theorem fold_mem {q : PlG} : ∀ {ps l : List PlG}, q ∈ ps.foldl withL l ↔ q ∈ l ∨ q ∈ ps
  | [], l => by simp
  | p :: r, l => by rw [List.foldl_cons, fold_mem, withL_mem, List.mem_cons, or_assoc]
theorem fold_rising : ∀ {ps l : List PlG}, Rising l → Rising (ps.foldl withL l)
  | [], l, h => h
  | p :: r, l, h => by rw [List.foldl_cons]; exact fold_rising (withL_rising h)
theorem refW_mem {n : Nat} {q : PlG} : ∀ {cs : List UInt64} {l : List PlG}, q ∈ refW n cs l ↔ q ∈ l ∨ ∃ c ∈ cs, q ∈ wayL n c.toNat
  | [], l => by simp [refW]
  | c :: r, l => by
    have := refW_mem (n := n) (q := q) (cs := r) (l := (wayL n c.toNat).foldl withL l)
    unfold refW at this ⊢
    rw [List.foldl_cons, this, fold_mem]
    simp only [List.mem_cons, exists_eq_or_imp, or_assoc]
theorem refW_rising {n : Nat} : ∀ {cs : List UInt64} {l : List PlG}, Rising l → Rising (refW n cs l)
  | [], l, h => h
  | c :: r, l, h => by
    have := refW_rising (n := n) (cs := r) (l := (wayL n c.toNat).foldl withL l) (fold_rising h)
    unfold refW at this ⊢
    rw [List.foldl_cons]; exact this
theorem refW_eq {n : Nat} (hn : n ≤ 1048576) {cs : List UInt64} (hc : ∀ c ∈ cs, c.toNat < n) : refW n cs [] = sortP (waysK n cs []) := by
  refine rising_eq (refW_rising (by simp [Rising])) (waysK_nodup _ _ _ List.nodup_nil) fun q => ?_
  rw [refW_mem, way_iff hn hc]
  simp only [List.not_mem_nil, false_or]
  constructor
  · rintro ⟨c, h1, h2⟩
    obtain ⟨r, e1, e2, e3, e4⟩ := claim_tree (hc c h1) hn
    unfold wayL at h2
    rw [e1] at h2
    simp only [Int.toNat_natCast, List.mem_map, List.mem_range] at h2
    obtain ⟨k, h3, rfl⟩ := h2
    exact ⟨c, h1, k, r, by omega, e3, rfl⟩
  · rintro ⟨c, h1, k, r, h2, h3, rfl⟩
    have e5 := same_tree (c := c.toNat) (k := k) hn h3 h2 rfl
    refine ⟨c, h1, ?_⟩
    unfold wayL
    rw [e5]
    simp only [Int.toNat_natCast, List.mem_map, List.mem_range]
    exact ⟨k, by omega, rfl⟩
def refQ (own w acc : List PlG) (p : PlG) : List PlG := if ¬ p ∈ own ∧ ¬ neighG p ∈ w then withL acc (neighG p) else acc
theorem refQ_mem {own w : List PlG} {q : PlG} : ∀ {d acc : List PlG}, q ∈ d.foldl (refQ own w) acc ↔ q ∈ acc ∨ ∃ p ∈ d, q = neighG p ∧ ¬ (neighG p ∈ w ∨ p ∈ own)
  | [], acc => by simp
  | p :: r, acc => by
    rw [List.foldl_cons, refQ_mem]
    have : q ∈ refQ own w acc p ↔ q ∈ acc ∨ (q = neighG p ∧ ¬ (neighG p ∈ w ∨ p ∈ own)) := by
      unfold refQ
      split
      · rename_i h
        rw [withL_mem]
        simp [h.1, h.2]
      · rename_i h
        have : neighG p ∈ w ∨ p ∈ own := by
          by_cases h1 : p ∈ own
          · exact .inr h1
          · exact .inl (Classical.byContradiction fun h2 => h ⟨h1, h2⟩)
        simp [this]
    rw [this]
    simp only [List.mem_cons, exists_eq_or_imp, or_assoc]
theorem refQ_rising {own w : List PlG} : ∀ {d acc : List PlG}, Rising acc → Rising (d.foldl (refQ own w) acc)
  | [], acc, h => h
  | p :: r, acc, h => by
    rw [List.foldl_cons]
    refine refQ_rising ?_
    unfold refQ; split
    · exact withL_rising h
    · exact h
theorem refQ_eq {own w k : List PlG} (hm : ∀ q, q ∈ w ↔ q ∈ k) : w.foldl (refQ own w) [] = sortP (addK own k k) := by
  refine rising_eq (refQ_rising (by simp [Rising])) (addK_nodup List.nodup_nil) fun q => ?_
  unfold addK
  rw [refQ_mem, addK_mem]
  simp only [hm]
/-! with what is needed there is enough -/
theorem neigh_pa {c k : Nat} (hc : c ≤ 1048576) : (neighG (pa c k) = ⟨(k : Nat), (if c / 2 ^ k % 2 = 0 then c / 2 ^ k + 1 else c / 2 ^ k - 1 : Nat)⟩) := by
  have hd : c / 2 ^ k ≤ c := Nat.div_le_self _ _
  unfold neighG pa
  rw [PlG.mk.injEq]
  refine ⟨rfl, ?_⟩
  show bits BinOp.xor .u64 ((c / 2 ^ k : Nat) : Int) 1 = _
  generalize c / 2 ^ k = y at *
  rw [xor_one (by omega) (by omega)]
  split <;> split <;> omega
theorem enough_kids {n : Nat} (hn : n ≤ 1048576) {cs : List UInt64} (hc : ∀ c ∈ cs, c.toNat < n) {w : PlG} (hw : w ∈ waysK n cs []) (h0 : w.row ≠ 0) (q : PlG) (hq : q = kidL w ∨ q = kidR w) :
    q ∈ waysK n cs [] ∨ q ∈ addK (treesN n) (waysK n cs []) (waysK n cs []) := by
  obtain ⟨c, h1, k, r, h2, h3, rfl⟩ := (way_iff hn hc w).1 hw
  have hcn := hc c h1
  simp only at h0
  obtain ⟨k, rfl⟩ : ∃ m, k = m + 1 := ⟨k - 1, by omega⟩
  have hx : pa c.toNat k ∈ waysK n cs [] := (way_iff hn hc _).2 ⟨c, h1, k, r, by omega, h3, rfl⟩
  have hd : c.toNat / 2 ^ (k + 1) = c.toNat / 2 ^ k / 2 := by rw [Nat.pow_succ, Nat.div_div_eq_div_mul]
  have hdl : c.toNat / 2 ^ k ≤ c.toNat := Nat.div_le_self _ _
  have hno : pa c.toNat k ∉ treesN n := fun hm => by
    have e1 := same_tree (c := c.toNat) (k := k) hn hm (Nat.le_refl _) rfl
    have e2 := same_tree (c := c.toNat) (k := k) hn h3 (by omega) rfl
    rw [e1] at e2
    have := (pa_inj e2).1; omega
  have key : q = pa c.toNat k ∨ q = neighG (pa c.toNat k) := by
    rw [neigh_pa (by omega)]
    have hkl : kidL (pa c.toNat (k + 1)) = ⟨(k : Nat), ((2 * (c.toNat / 2 ^ k / 2) : Nat) : Int)⟩ := by
      unfold kidL pa
      rw [if_neg (by simp only; omega), PlG.mk.injEq, IntKind.wrap_u64, hd]
      generalize c.toNat / 2 ^ k = y at *
      exact ⟨by simp only; omega, by simp only; omega⟩
    have hkr : kidR (pa c.toNat (k + 1)) = ⟨(k : Nat), ((2 * (c.toNat / 2 ^ k / 2) + 1 : Nat) : Int)⟩ := by
      unfold kidR pa
      rw [if_neg (by simp only; omega), PlG.mk.injEq, IntKind.wrap_u64, IntKind.wrap_u64, hd]
      generalize c.toNat / 2 ^ k = y at *
      exact ⟨by simp only; omega, by simp only; omega⟩
    unfold pa
    rw [hkl, hkr] at hq
    generalize c.toNat / 2 ^ k = y at *
    rcases hq with rfl | rfl
    · by_cases hy : y % 2 = 0
      · left; rw [PlG.mk.injEq]; omega
      · right; rw [PlG.mk.injEq, if_neg hy]; omega
    · by_cases hy : y % 2 = 0
      · right; rw [PlG.mk.injEq, if_pos hy]; omega
      · left; rw [PlG.mk.injEq]; omega
  rcases key with rfl | rfl
  · exact .inl hx
  · by_cases hm : neighG (pa c.toNat k) ∈ waysK n cs []
    · exact .inl hm
    · right
      unfold addK
      rw [addK_mem]
      exact .inr ⟨_, hx, rfl, fun h => h.elim hm hno⟩
theorem need_law {n : Nat} (hn : n ≤ 1048576) {cs : List UInt64} (hc : ∀ c ∈ cs, c.toNat < n) {q : PlG} (hq : q ∈ addK (treesN n) (waysK n cs []) (waysK n cs [])) :
    standsB n q = true ∧ q ∉ waysK n cs [] ∧ q ∉ treesN n := by
  unfold addK at hq
  rw [addK_mem] at hq
  rcases hq with hq | ⟨p, h1, rfl, h2⟩
  · cases hq
  obtain ⟨c, h3, k, r, h4, h5, rfl⟩ := (way_iff hn hc p).1 h1
  have hcn := hc c h3
  have hkr : k ≠ r := fun e => h2 (.inr (by rw [e]; exact h5))
  have hdl : c.toNat / 2 ^ k ≤ c.toNat := Nat.div_le_self _ _
  obtain ⟨r', g, e1, e2, e3, e4⟩ := tree_mem hn h5
  have hr : r = r' := by unfold pa at e1; rw [PlG.mk.injEq] at e1; omega
  have hin : ∀ y : Nat, y / 2 = c.toNat / 2 ^ k / 2 → y / 2 ^ (r - k) = c.toNat / 2 ^ r := fun y hy => by
    have e5 : r - k = 1 + (r - k - 1) := by omega
    rw [pow_div (k := k) (r := r) h4, e5, Nat.pow_add, ← Nat.div_div_eq_div_mul, ← Nat.div_div_eq_div_mul, Nat.pow_one, hy]
  obtain ⟨y, hy, hy2, hyb⟩ : ∃ y : Nat, neighG (pa c.toNat k) = ⟨(k : Nat), (y : Nat)⟩ ∧ y / 2 = c.toNat / 2 ^ k / 2 ∧ y ≤ 1048577 := by
    refine ⟨_, neigh_pa (by omega), ?_, ?_⟩ <;> generalize c.toNat / 2 ^ k = y at * <;> split <;> omega
  have hi : insideB (pa c.toNat r) ⟨(k : Nat), (y : Nat)⟩ = true := insideB_iff.2 ⟨h4, hin y hy2⟩
  rw [hy]
  refine ⟨(stands_iff (pok (by omega) (by omega))).2 ⟨by simp only; omega, _, h5, hi⟩, fun hm => h2 (.inl (by rw [hy]; exact hm)), fun hm => ?_⟩
  have q1 : treeQ ((y * 2 ^ k : Nat) : Int) (pa c.toNat r) = true := (treeQ_iff rfl rfl).2 ((inside_iff h4).2 (hin y hy2))
  have q2 : treeQ ((y * 2 ^ k : Nat) : Int) ⟨(k : Nat), (y : Nat)⟩ = true := (treeQ_iff rfl rfl).2 (Nat.mul_div_cancel _ (Nat.two_pow_pos k))
  have := tree_uniq hn h5 hm q1 q2
  unfold pa at this
  rw [PlG.mk.injEq] at this
  omega
end Go.Proofs.Ytjiglibogmehfaa
