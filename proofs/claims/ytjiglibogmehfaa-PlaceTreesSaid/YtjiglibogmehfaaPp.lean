/-
  Places: plain laws. Which tree; what stands; ways; needs. No program in sight.
-/
import Derived.Test.YtjiglibogmehfaaPf
set_option linter.all false
set_option maxRecDepth 100000
namespace Go.Proofs.Ytjiglibogmehfaa
open Go.RowKit

/-! trees are disjoint -/
theorem treeQ_iff {c : Nat} {p : PlG} {r a : Nat} (hr : p.row = r) (ha : p.at_ = a) : treeQ (c : Int) p = true ↔ c / 2 ^ r = a := by
  unfold treeQ
  rw [decide_eq_true_iff, hr, ha, Int.toNat_natCast]
  have e : ((c : Int) / 2 ^ r) = ((c / 2 ^ r : Nat) : Int) := by simp
  rw [e]; omega
theorem trees_mem : ∀ (n f j : Nat) (p : PlG), n < 2 ^ j → 2 ^ j ∣ f → p ∈ trees f n → ∃ r g : Nat, p = ⟨(r : Nat), ((g / 2 ^ r : Nat) : Int)⟩ ∧ 2 ^ r ∣ g ∧ f ≤ g ∧ g + 2 ^ r ≤ f + n ∧ r < j := by
  intro n
  induction n using Nat.strongRecOn with
  | _ n ih =>
    intro f j p hj hd hp
    by_cases h0 : n = 0
    · subst h0; rw [trees_zero] at hp; cases hp
    have hl := (Nat.log2_eq_iff h0).1 rfl
    have hpos := Nat.two_pow_pos (Nat.log2 n)
    have hlj : Nat.log2 n < j := (Nat.log2_lt h0).2 hj
    have hdv : 2 ^ Nat.log2 n ∣ f := Nat.dvd_trans (Nat.pow_dvd_pow 2 (Nat.le_of_lt hlj)) hd
    rw [trees_step h0] at hp
    rcases List.mem_cons.1 hp with rfl | hp
    · exact ⟨Nat.log2 n, f, rfl, hdv, Nat.le_refl _, by omega, hlj⟩
    · obtain ⟨r, g, h1, h2, h3, h4, h5⟩ := ih (n - 2 ^ Nat.log2 n) (by omega) (f + 2 ^ Nat.log2 n) (Nat.log2 n) p (by rw [Nat.pow_succ] at hl; omega) ((Nat.dvd_add_right hdv).2 (Nat.dvd_refl _)) hp
      exact ⟨r, g, h1, h2, by omega, by omega, by omega⟩
theorem div_iff {c g r : Nat} (h : 2 ^ r ∣ g) : c / 2 ^ r = g / 2 ^ r ↔ g ≤ c ∧ c < g + 2 ^ r := by
  have hpos := Nat.two_pow_pos r
  obtain ⟨q, rfl⟩ := h
  rw [Nat.mul_div_cancel_left _ hpos]
  constructor
  · intro e
    have h1 := Nat.div_mul_le_self c (2 ^ r)
    have h2 := Nat.lt_div_mul_add hpos (a := c)
    rw [e, Nat.mul_comm] at h1 h2
    exact ⟨h1, h2⟩
  · rintro ⟨h1, h2⟩
    rw [Nat.div_eq_of_lt_le]
    · rw [Nat.mul_comm]; exact h1
    · rw [Nat.add_mul, Nat.mul_comm q]; omega
theorem trees_uniq : ∀ (n f j c : Nat) (p q : PlG), n < 2 ^ j → 2 ^ j ∣ f → p ∈ trees f n → q ∈ trees f n → treeQ (c : Int) p = true → treeQ (c : Int) q = true → p = q := by
  intro n
  induction n using Nat.strongRecOn with
  | _ n ih =>
    intro f j c p q hj hd hp hq hp1 hq1
    by_cases h0 : n = 0
    · subst h0; rw [trees_zero] at hp; cases hp
    have hl := (Nat.log2_eq_iff h0).1 rfl
    have hpos := Nat.two_pow_pos (Nat.log2 n)
    have hlj : Nat.log2 n < j := (Nat.log2_lt h0).2 hj
    have hdv : 2 ^ Nat.log2 n ∣ f := Nat.dvd_trans (Nat.pow_dvd_pow 2 (Nat.le_of_lt hlj)) hd
    have hn' : n - 2 ^ Nat.log2 n < 2 ^ Nat.log2 n := by rw [Nat.pow_succ] at hl; omega
    have hd' : 2 ^ Nat.log2 n ∣ f + 2 ^ Nat.log2 n := (Nat.dvd_add_right hdv).2 (Nat.dvd_refl _)
    have tail : ∀ x ∈ trees (f + 2 ^ Nat.log2 n) (n - 2 ^ Nat.log2 n), treeQ (c : Int) x = true → f + 2 ^ Nat.log2 n ≤ c := fun x hx hx1 => by
      obtain ⟨r, g, rfl, h2, h3, h4, h5⟩ := trees_mem _ _ _ x hn' hd' hx
      have := (div_iff h2).1 ((treeQ_iff rfl rfl).1 hx1)
      omega
    have head : treeQ (c : Int) ⟨(Nat.log2 n : Nat), ((f / 2 ^ Nat.log2 n : Nat) : Int)⟩ = true → c < f + 2 ^ Nat.log2 n := fun hx => ((div_iff hdv).1 ((treeQ_iff rfl rfl).1 hx)).2
    rw [trees_step h0] at hp hq
    rcases List.mem_cons.1 hp with rfl | hp <;> rcases List.mem_cons.1 hq with rfl | hq
    · rfl
    · have := head hp1; have := tail q hq hq1; omega
    · have := head hq1; have := tail p hp hp1; omega
    · exact ih (n - 2 ^ Nat.log2 n) (by omega) (f + 2 ^ Nat.log2 n) (Nat.log2 n) c p q hn' hd' hp hq hp1 hq1
theorem treesN_eq {n : Nat} (h : n ≤ 1048576) : treesN (n : Int) = trees 0 n := by
  unfold treesN; rw [if_pos (by omega)]; rfl
theorem tree_mem {n : Nat} (hn : n ≤ 1048576) {p : PlG} (h : p ∈ treesN n) : ∃ r g : Nat, p = ⟨(r : Nat), ((g / 2 ^ r : Nat) : Int)⟩ ∧ 2 ^ r ∣ g ∧ g + 2 ^ r ≤ n ∧ r ≤ 20 := by
  rw [treesN_eq hn] at h
  obtain ⟨r, g, h1, h2, h3, h4, h5⟩ := trees_mem n 0 21 p (by omega) (Nat.dvd_zero _) h
  exact ⟨r, g, h1, h2, by omega, by omega⟩
theorem tree_uniq {n c : Nat} (hn : n ≤ 1048576) {p q : PlG} (hp : p ∈ treesN n) (hq : q ∈ treesN n) (h1 : treeQ (c : Int) p = true) (h2 : treeQ (c : Int) q = true) : p = q := by
  rw [treesN_eq hn] at hp hq
  exact trees_uniq n 0 21 c p q (by omega) (Nat.dvd_zero _) hp hq h1 h2
theorem treeP_mem {n leaf : Int} (h : treeB n leaf = true) : treeP n leaf ∈ treesN n ∧ treeQ leaf (treeP n leaf) = true := by
  have h0 : 0 ≤ treeI n leaf := of_decide_eq_true h
  have hb := treeI_b n leaf
  have e : treeP n leaf = ixd (treesN n) (treeI n leaf) := if_neg (by omega)
  rw [e]
  refine ⟨?_, ?_⟩
  · rw [ixd_eq (by omega)]; exact List.getElem_mem _
  · have := idxG_at (q := treeQ leaf) (l := treesN n) (k := 0) (Int.le_refl 0) h0
    rw [Int.sub_zero] at this; exact this
theorem treeP_of {n c : Nat} (hn : n ≤ 1048576) {p : PlG} (hp : p ∈ treesN n) (h : treeQ (c : Int) p = true) : treeP n c = p ∧ treeB n c = true := by
  have hb : treeB n c = true := by
    unfold treeB treeI
    rw [decide_eq_true_iff, idxG_mem (Int.le_refl 0)]
    exact ⟨p, hp, h⟩
  obtain ⟨h1, h2⟩ := treeP_mem hb
  exact ⟨tree_uniq hn h1 hp h2 h, hb⟩
/-! what stands -/
def insideB (p q : PlG) : Bool := decide (q.row ≤ p.row ∧ q.at_ / ((2 ^ (p.row - q.row).toNat : Nat) : Int) = p.at_)
theorem inside_iff {r a k x : Nat} (h : k ≤ r) : (x * 2 ^ k) / 2 ^ r = a ↔ x / 2 ^ (r - k) = a := by
  have e : 2 ^ r = 2 ^ k * 2 ^ (r - k) := by rw [← Nat.pow_add, Nat.add_sub_cancel' h]
  rw [e, ← Nat.div_div_eq_div_mul, Nat.mul_div_cancel _ (Nat.two_pow_pos k)]
theorem insideB_iff {r a k x : Nat} : insideB ⟨(r : Nat), (a : Nat)⟩ ⟨(k : Nat), (x : Nat)⟩ = true ↔ k ≤ r ∧ x / 2 ^ (r - k) = a := by
  unfold insideB
  rw [decide_eq_true_iff]
  have e : (((r : Nat) : Int) - ((k : Nat) : Int)).toNat = r - k := by omega
  simp only [e]
  have e2 : ((x : Int) / ((2 ^ (r - k) : Nat) : Int)) = ((x / 2 ^ (r - k) : Nat) : Int) := by simp
  rw [e2]; omega
theorem pok {r a : Nat} (h1 : r ≤ 255) (h2 : a ≤ 18446744073709551615) : PlOk ⟨(r : Nat), (a : Nat)⟩ := ⟨Int.natCast_nonneg _, by simp only; omega, Int.natCast_nonneg _, by simp only; omega⟩
theorem nat_of {x : Int} (h : 0 ≤ x) : ∃ k : Nat, x = (k : Nat) := ⟨x.toNat, by omega⟩
theorem stands_iff {n : Nat} {p : PlG} (h : PlOk p) : standsB n p = true ↔ p.row ≤ 20 ∧ ∃ t ∈ treesN n, insideB t p = true := by
  by_cases hn : n ≤ 1048576
  · obtain ⟨h1, h2, h3, h4⟩ := h
    obtain ⟨k, hk⟩ := nat_of h1
    obtain ⟨x, hx⟩ := nat_of h3
    obtain ⟨row, at_⟩ := p
    simp only at hk hx h1 h2 h3 h4
    subst hk hx
    unfold standsB
    simp only [Bool.and_eq_true, decide_eq_true_iff]
    have e : (x : Int) * 2 ^ ((k : Nat) : Int).toNat = ((x * 2 ^ k : Nat) : Int) := by simp
    rw [e]
    constructor
    · rintro ⟨⟨a1, a2⟩, a3, a4⟩
      obtain ⟨b1, b2⟩ := treeP_mem a3
      refine ⟨a1, _, b1, ?_⟩
      obtain ⟨r, g, c1, c2, c3, c4⟩ := tree_mem hn b1
      rw [c1] at b2 a4 ⊢
      simp only at a4
      rw [insideB_iff]
      exact ⟨by omega, (inside_iff (by omega)).1 ((treeQ_iff rfl rfl).1 b2)⟩
    · rintro ⟨a1, t, b1, b2⟩
      obtain ⟨r, g, rfl, c2, c3, c4⟩ := tree_mem hn b1
      rw [insideB_iff] at b2
      have hq : treeQ ((x * 2 ^ k : Nat) : Int) ⟨(r : Nat), ((g / 2 ^ r : Nat) : Int)⟩ = true := (treeQ_iff rfl rfl).2 ((inside_iff b2.1).2 b2.2)
      obtain ⟨d1, d2⟩ := treeP_of hn b1 hq
      refine ⟨⟨a1, ?_⟩, d2, by rw [d1]; show ((k : Nat) : Int) ≤ (r : Nat); omega⟩
      have h5 := ((div_iff c2).1 ((treeQ_iff rfl rfl).1 hq)).2
      have h6 : x * 1 ≤ x * 2 ^ k := Nat.mul_le_mul_left x (Nat.two_pow_pos k)
      omega
  · have e : treesN (n : Int) = [] := if_neg (by omega)
    unfold standsB treeB treeI
    rw [e]
    simp [idxG]
/-! the trees cover -/
theorem cover_stands {n : Nat} (hn : n ≤ 1048576) {t : PlG} (ht : t ∈ treesN n) : standsB n t = true ∧ standsB n (parentG t) = false := by
  have hok := treesN_ok n t ht
  obtain ⟨r, g, rfl, h2, h3, h4⟩ := tree_mem hn ht
  simp only at hok
  have hg : g / 2 ^ r ≤ g := Nat.div_le_self _ _
  have hpe : parentG ⟨(r : Nat), ((g / 2 ^ r : Nat) : Int)⟩ = ⟨((r + 1 : Nat) : Int), ((g / 2 ^ (r + 1) : Nat) : Int)⟩ := by
    unfold parentG
    rw [PlG.mk.injEq, IntKind.wrap_u8]
    refine ⟨by simp only; omega, ?_⟩
    rw [Nat.pow_succ, ← Nat.div_div_eq_div_mul]; simp
  have hg2 : g / 2 ^ (r + 1) ≤ g := Nat.div_le_self _ _
  refine ⟨(stands_iff (pok (by omega) (by omega))).2 ⟨by simp only; omega, _, ht, insideB_iff.2 ⟨Nat.le_refl _, by simp⟩⟩, ?_⟩
  rw [hpe, Bool.eq_false_iff]
  intro h
  rw [stands_iff (pok (by omega) (by omega))] at h
  obtain ⟨h5, t', h6, h7⟩ := h
  obtain ⟨r', g', rfl, k2, k3, k4⟩ := tree_mem hn h6
  rw [insideB_iff] at h7
  have e : treeQ ((g : Nat) : Int) ⟨(r' : Nat), ((g' / 2 ^ r' : Nat) : Int)⟩ = true := by
    rw [treeQ_iff rfl rfl, ← h7.2, Nat.div_div_eq_div_mul, ← Nat.pow_add, Nat.add_sub_cancel' h7.1]
  have e2 : treeQ ((g : Nat) : Int) ⟨(r : Nat), ((g / 2 ^ r : Nat) : Int)⟩ = true := (treeQ_iff rfl rfl).2 rfl
  have e3 := tree_uniq hn h6 ht e e2
  rw [PlG.mk.injEq] at e3
  omega
/-- the i-th tree begins where the ones ahead of it end -/
theorem cover_next {k i f : Nat} (hk : k ≤ 1048576) (hd : (trees 0 k).drop i = trees f (k - f)) (hf : f < k) (h : ∃ j, k - f < 2 ^ j ∧ 2 ^ j ∣ f) : ∃ r : Nat, i < (trees 0 k).length ∧ ixd (trees 0 k) (i : Int) = ⟨(r : Nat), ((f / 2 ^ r : Nat) : Int)⟩ ∧ r ≤ 20 ∧ 2 ^ r ∣ f ∧ f + 2 ^ r ≤ k ∧ (trees 0 k).drop (i + 1) = trees (f + 2 ^ r) (k - (f + 2 ^ r)) ∧ ∃ j, k - (f + 2 ^ r) < 2 ^ j ∧ 2 ^ j ∣ f + 2 ^ r := by
  obtain ⟨j, hj, hdv⟩ := h
  have h0 : k - f ≠ 0 := by omega
  have hl := (Nat.log2_eq_iff h0).1 rfl
  have hlj : Nat.log2 (k - f) < j := (Nat.log2_lt h0).2 hj
  have hdv' : 2 ^ Nat.log2 (k - f) ∣ f := Nat.dvd_trans (Nat.pow_dvd_pow 2 (Nat.le_of_lt hlj)) hdv
  have h20 : Nat.log2 (k - f) < 21 := (Nat.log2_lt h0).2 (by omega)
  rw [trees_step h0] at hd
  obtain ⟨_, t2, t3⟩ := take_of_drop hd
  have hx := drop_ixd (l := trees 0 k) (i := i) t3
  rw [hd] at hx
  refine ⟨Nat.log2 (k - f), t3, ((List.cons.inj hx).1).symm, by omega, hdv', by omega, ?_, Nat.log2 (k - f), by rw [Nat.pow_succ] at hl; omega, (Nat.dvd_add_right hdv').2 (Nat.dvd_refl _)⟩
  rw [t2]
  congr 1; omega
end Go.Proofs.Ytjiglibogmehfaa
