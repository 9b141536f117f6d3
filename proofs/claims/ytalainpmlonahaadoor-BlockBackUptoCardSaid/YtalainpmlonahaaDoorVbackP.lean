/-
  PLAIN LAWS: what is put is read, what is read is put; no Go in sight.
-/
import Derived.Test.YtalainpmlonahaaDoorVtxP
set_option linter.all false
set_option maxHeartbeats 4000000
namespace Go.Proofs.YtalainpmlonahaaDoor

/-- s stands at i in l -/
def At (l : List UInt8) (i : Int) (s : List UInt8) : Prop := ∃ a b, l = a ++ s ++ b ∧ (a.length : Int) = i
theorem At.here (a s b : List UInt8) : At (a ++ s ++ b) a.length s := ⟨a, b, rfl, rfl⟩
theorem At.left {l s t : List UInt8} {i : Int} : At l i (s ++ t) → At l i s
  | ⟨a, b, e, h⟩ => ⟨a, t ++ b, by simp [e], h⟩
theorem At.right {l s t : List UInt8} {i : Int} : At l i (s ++ t) → At l (i + s.length) t
  | ⟨a, b, e, h⟩ => ⟨a ++ s, b, by simp [e], by simp; omega⟩
theorem At.join {l s t : List UInt8} {i : Int} : At l i s → At l (i + s.length) t → At l i (s ++ t)
  | ⟨a, b, e, h⟩, ⟨a', b', e', h'⟩ => by
    have h1 : (a ++ s).length = a'.length := by simp; omega
    have h2 : (a ++ s) ++ b = a' ++ (t ++ b') := by rw [← e, e']; simp
    obtain ⟨h3, h4⟩ := List.append_inj h2 h1
    exact ⟨a, b', by rw [e, h4]; simp, h⟩
theorem At.b {l s : List UInt8} {i : Int} : At l i s → 0 ≤ i ∧ i + s.length ≤ l.length
  | ⟨a, b, e, h⟩ => by rw [e]; simp; omega
theorem At.pE {l s : List UInt8} {i k : Int} (h : At l i s) (hk : k = s.length) : partE l i k = 0 := by
  have := h.b; subst hk
  unfold partE; rw [if_neg (by omega), if_neg (by omega)]
theorem At.pL {l s : List UInt8} {i k : Int} (h : At l i s) (hk : k = s.length) : partL l i k = s := by
  have h0 := h.pE hk
  unfold partL; rw [if_pos h0]
  obtain ⟨a, b, e, h⟩ := h
  subst hk
  have e1 : i.toNat = a.length := by omega
  rw [e, e1]; simp
theorem part_At {l : List UInt8} {i k : Int} (h : partE l i k = 0) : At l i (partL l i k) := by
  have h1 := partE_ok h
  unfold partL; rw [if_pos h]
  refine ⟨l.take i.toNat, (l.drop i.toNat).drop k.toNat, ?_, by simp; omega⟩
  rw [List.append_assoc, List.take_append_drop, List.take_append_drop]
theorem At.uniq {l s t : List UInt8} {i : Int} (h : At l i s) (h' : At l i t) (hl : s.length = t.length) : s = t := by
  rw [← h.pL rfl, ← h'.pL rfl, hl]
theorem At.zero {l s : List UInt8} (h : At l 0 s) : s = l.take s.length := by
  obtain ⟨a, b, e, h⟩ := h
  have : a = [] := by cases a with
    | nil => rfl
    | cons x r => simp at h; omega
  subst this; rw [e]; simp

/-! numbers -/
theorem numS_lowS {n : Int} (h : 0 ≤ n) : ∀ k, numS (lowS n k) = n % 2 ^ (8 * k)
  | 0 => by simp [lowS, numS]
  | k + 1 => by
    rw [lowS_succ, numS_append, numS_lowS h k, lowS_len]
    simp only [numS, byteAt, u8_toNat]
    obtain ⟨m, rfl⟩ := Int.eq_ofNat_of_zero_le h
    have e : 8 * (k + 1) = 8 * k + 8 := by omega
    rw [e]
    have hp : (2 : Int) ^ (8 * k + 8) = 2 ^ (8 * k) * 256 := by rw [Int.pow_add]; rfl
    rw [hp]
    have h2 := congrArg (fun x : Nat => (x : Int)) (Nat.mod_mul (a := 2 ^ (8 * k)) (b := 256) (x := m))
    simp only [Int.natCast_add, Int.natCast_mul, Int.natCast_emod, Int.natCast_ediv] at h2
    have hq : ((2 ^ (8 * k) : Nat) : Int) = 2 ^ (8 * k) := by rw [Int.natCast_pow]; rfl
    rw [hq] at h2
    simp only [Int.mul_zero, Int.add_zero]
    exact h2.symm
theorem lowS_numS : ∀ s : List UInt8, lowS (numS s) s.length = s
  | [] => rfl
  | x :: r => by
    have ih := lowS_numS r
    have hx : x.toNat < 256 := x.toNat_lt
    have hb := numS_b r
    unfold lowS at ih ⊢
    rw [List.length_cons, List.range_succ_eq_map, List.map_cons, List.map_map]
    congr 1
    · unfold byteAt
      simp only [numS, Nat.mul_zero, Int.pow_zero, Int.ediv_one]
      unfold u8
      have : ((x.toNat : Int) + 256 * numS r) % 256 = x.toNat := by omega
      rw [this]; simp
    · conv => rhs; rw [← ih]
      apply List.map_congr_left
      intro i _
      simp only [Function.comp, byteAt, numS]
      congr 1
      have e : 8 * (i + 1) = 8 + 8 * i := by omega
      rw [e, Int.pow_add, ← Int.ediv_ediv_of_nonneg (by decide)]
      congr 1
      have e2 : (2 : Int) ^ 8 = 256 := by decide
      rw [e2]; omega
theorem lowS_fit {n k : Int} (h : Fit n k) : numS (lowS n k.toNat) = n := by
  obtain ⟨h0, ⟨rfl, h⟩ | ⟨rfl, h⟩ | ⟨rfl, h⟩⟩ := h
  · rw [numS_lowS h0]; show n % 65536 = n; omega
  · rw [numS_lowS h0]; show n % 4294967296 = n; omega
  · rw [numS_lowS h0]; show n % 18446744073709551616 = n; omega
theorem At.gE {l s : List UInt8} {i k : Int} (h : At l i s) (hk : k = s.length) (hs : sizeOk k = true) : getE l i k = 0 := by
  unfold getE; rw [if_pos hs]; exact h.pE hk
theorem At.gN {l s : List UInt8} {i k : Int} (h : At l i s) (hk : k = s.length) (hs : sizeOk k = true) : getN l i k = numS s := by
  unfold getN; rw [if_pos (h.gE hk hs), h.pL hk]
theorem getE_At {l : List UInt8} {i k : Int} (h : getE l i k = 0) : At l i (lowS (getN l i k) k.toNat) ∧ sizeOk k = true := by
  have h0 := h
  unfold getE at h; split at h
  · rename_i hs
    refine ⟨?_, hs⟩
    unfold getN; rw [if_pos h0]
    have h1 := part_At h
    have h2 := partL_len h
    have h3 := lowS_numS (partL l i k)
    have e : k.toNat = (partL l i k).length := by omega
    rw [e, h3]; exact h1
  · cases h
theorem At.put {l : List UInt8} {i n k : Int} (hf : Fit n k) (h : At l i (putL n k)) : getE l i k = 0 ∧ getN l i k = n := by
  have h1 := putL_len hf
  have hs : sizeOk k = true := by obtain ⟨_, ⟨rfl, _⟩ | ⟨rfl, _⟩ | ⟨rfl, _⟩⟩ := hf <;> rfl
  refine ⟨h.gE (by omega) hs, ?_⟩
  rw [h.gN (by omega) hs]; unfold putL; rw [if_pos (putE_fit hf), lowS_fit hf]
theorem get_put {l : List UInt8} {i k : Int} (hk : k = 2 ∨ k = 4 ∨ k = 8) (h : getE l i k = 0) : At l i (putL (getN l i k) k) ∧ Fit (getN l i k) k := by
  have h1 := (getE_At h).1
  have h2 := getN_b l i k
  have h3 := getN_2 l i
  have h4 := getN_4 l i
  have hf : Fit (getN l i k) k := by
    rcases hk with rfl | rfl | rfl
    · exact ⟨h2.1, .inl ⟨rfl, h3⟩⟩
    · exact ⟨h2.1, .inr (.inl ⟨rfl, h4⟩)⟩
    · exact ⟨h2.1, .inr (.inr ⟨rfl, h2.2⟩)⟩
  refine ⟨?_, hf⟩
  unfold putL; rw [if_pos (putE_fit hf)]; exact h1

/-! counts -/
theorem cons_At {l r : List UInt8} {x : UInt8} {i : Int} (h : At l i (x :: r)) : At l i [x] ∧ At l (i + 1) r := by
  have h' : At l i ([x] ++ r) := h
  exact ⟨h'.left, by have := h'.right; simpa using this⟩
theorem At.count {l : List UInt8} {i n : Int} (hn : 0 ≤ n ∧ n ≤ 18446744073709551615) (h : At l i (countS n)) : countE l i = 0 ∧ countN l i = n ∧ countX l i = i + (countS n).length := by
  have hl := countS_len n
  have key : ∀ (f : Int) (m : Int), countS n = u8 f :: lowS n m.toNat → manyOf f = m → 253 ≤ f → f ≤ 255 → Fit n m → m < (countS n).length → countE l i = 0 ∧ countN l i = n ∧ countX l i = i + (countS n).length := by
    intro f m e hm hf1 hf2 hfit hlen
    rw [e] at h
    obtain ⟨h1, h2⟩ := cons_At h
    have a1 : getE l i 1 = 0 := h1.gE (by simp) rfl
    have a2 : getN l i 1 = f := by rw [h1.gN (by simp) rfl]; simp only [numS, u8_toNat]; omega
    have hs : sizeOk m = true := by obtain ⟨_, ⟨rfl, _⟩ | ⟨rfl, _⟩ | ⟨rfl, _⟩⟩ := hfit <;> rfl
    have hm0 : 0 ≤ m := by have := sizeOk_c hs; omega
    have hk : m = (lowS n m.toNat).length := by rw [lowS_len]; omega
    have a3 := h2.gE hk hs
    have a4 : getN l (i + 1) m = n := by rw [h2.gN hk hs, lowS_fit hfit]
    have a5 : countE l i = 0 := by
      unfold countE; rw [a1, a2, hm, a3, a4, if_neg (by omega), if_neg (by omega), if_neg (by omega), if_neg (by omega)]
    refine ⟨a5, ?_, ?_⟩
    · unfold countN; rw [if_neg (by omega), a2, if_neg (by omega), hm, a4]
    · unfold countX; rw [if_neg (by omega), a2, if_neg (by omega), hm, e]; simp only [List.length_cons]; omega
  by_cases h1 : n < 253
  · have e : countS n = lowS n 1 := by unfold countS; rw [if_pos h1]
    rw [e] at h ⊢
    have a1 : getE l i 1 = 0 := h.gE (by simp [lowS_len]) rfl
    have a2 : getN l i 1 = n := by rw [h.gN (by simp [lowS_len]) rfl, numS_lowS hn.1]; show n % 256 = n; omega
    have a5 : countE l i = 0 := by unfold countE; rw [a1, a2, if_neg (by omega), if_pos h1]
    refine ⟨a5, ?_, ?_⟩
    · unfold countN; rw [if_neg (by omega), a2, if_pos h1]
    · unfold countX; rw [if_neg (by omega), a2, if_pos h1, lowS_len]; rfl
  · by_cases h2 : n / 2 ^ 16 = 0
    · rw [if_neg h1, if_pos h2] at hl
      exact key 253 2 (by unfold countS; rw [if_neg h1, if_pos h2]; rfl) rfl (by omega) (by omega) ⟨hn.1, .inl ⟨rfl, by omega⟩⟩ (by omega)
    · by_cases h3 : n / 2 ^ 32 = 0
      · rw [if_neg h1, if_neg h2, if_pos h3] at hl
        exact key 254 4 (by unfold countS; rw [if_neg h1, if_neg h2, if_pos h3]; rfl) rfl (by omega) (by omega) ⟨hn.1, .inr (.inl ⟨rfl, by omega⟩)⟩ (by omega)
      · rw [if_neg h1, if_neg h2, if_neg h3] at hl
        exact key 255 8 (by unfold countS; rw [if_neg h1, if_neg h2, if_neg h3]; rfl) rfl (by omega) (by omega) ⟨hn.1, .inr (.inr ⟨rfl, by omega⟩)⟩ (by omega)
theorem count_At {l : List UInt8} {i : Int} (h : countE l i = 0) : At l i (countS (countN l i)) ∧ countX l i = i + (countS (countN l i)).length := by
  suffices h' : At l i (countS (countN l i)) from ⟨h', (h'.count (countN_b l i)).2.2⟩
  have h0 := h
  unfold countE at h
  split at h
  · contradiction
  · rename_i a1
    have a1 : getE l i 1 = 0 := by omega
    have b1 := (getE_At a1).1
    unfold countN; rw [if_neg (by omega)]
    split
    · rename_i a2
      unfold countS; rw [if_pos a2]; exact b1
    · rename_i a2
      rw [if_neg a2] at h
      split at h
      · contradiction
      · rename_i a3
        have a3 : getE l (i + 1) (manyOf (getN l i 1)) = 0 := by omega
        have b3 := (getE_At a3).1
        split at h
        · cases h
        · rename_i a4
          have hlen := countS_len (getN l (i + 1) (manyOf (getN l i 1)))
          have hf := getN_1 l i
          have hg := getN_pow l (i + 1)
          have hg0 := getN_b l (i + 1) (manyOf (getN l i 1))
          have fin : ∀ m : Nat, countS (getN l (i + 1) (manyOf (getN l i 1))) = u8 (getN l i 1) :: lowS (getN l (i + 1) (manyOf (getN l i 1))) m → m = (manyOf (getN l i 1)).toNat → At l i (countS (getN l (i + 1) (manyOf (getN l i 1)))) := by
            intro m e em
            subst em
            rw [e]
            have e1 : lowS (getN l i 1) (Int.toNat 1) = [u8 (getN l i 1)] := by
              show [byteAt (getN l i 1) 0] = _
              simp [byteAt]
            rw [e1] at b1
            exact b1.join (t := lowS _ _) (by simpa using b3)
          unfold manyOf at hlen a4 fin hg0 ⊢
          by_cases f1 : getN l i 1 = 253
          · simp only [f1, if_true] at hlen a4 fin hg0 ⊢
            have hg2 : getN l (i + 1) 2 < 2 ^ (8 * 2) := hg 2
            by_cases c1 : getN l (i + 1) 2 < 253
            · rw [if_pos c1] at hlen; omega
            · have c2 : getN l (i + 1) 2 / 2 ^ 16 = 0 := by omega
              exact fin 2 (by unfold countS; rw [if_neg c1, if_pos c2]) rfl
          · simp only [f1, if_false] at hlen a4 fin hg0 ⊢
            by_cases f2 : getN l i 1 = 254
            · simp only [f2, if_true] at hlen a4 fin hg0 ⊢
              have hg2 : getN l (i + 1) 4 < 2 ^ (8 * 4) := hg 4
              by_cases c1 : getN l (i + 1) 4 < 253
              · rw [if_pos c1] at hlen; omega
              · rw [if_neg c1] at hlen
                by_cases c2 : getN l (i + 1) 4 / 2 ^ 16 = 0
                · rw [if_pos c2] at hlen; omega
                · have c3 : getN l (i + 1) 4 / 2 ^ 32 = 0 := by omega
                  exact fin 4 (by unfold countS; rw [if_neg c1, if_neg c2, if_pos c3]) rfl
            · simp only [f2, if_false] at hlen a4 fin hg0 ⊢
              have f3 : getN l i 1 = 255 := by omega
              by_cases c1 : getN l (i + 1) 8 < 253
              · rw [if_pos c1] at hlen; omega
              · rw [if_neg c1] at hlen
                by_cases c2 : getN l (i + 1) 8 / 2 ^ 16 = 0
                · rw [if_pos c2] at hlen; omega
                · rw [if_neg c2] at hlen
                  by_cases c3 : getN l (i + 1) 8 / 2 ^ 32 = 0
                  · rw [if_pos c3] at hlen; omega
                  · exact fin 8 (by unfold countS; rw [if_neg c1, if_neg c2, if_neg c3, f3]) rfl

/-! rows -/
theorem At.row {l s : List UInt8} {i most : Int} (hs : (s.length : Int) ≤ most) (hb : s.length ≤ 1152921504606846976) (h : At l i (rowS s)) : rowE l i most = 0 ∧ rowL l i most = s ∧ rowX l i most = i + (rowS s).length := by
  unfold rowS at h
  obtain ⟨a1, a2, a3⟩ := h.left.count ⟨by omega, by omega⟩
  have h2 := h.right
  rw [← a3] at h2
  have a4 : rowE l i most = 0 := by unfold rowE; rw [if_neg (by omega), a2, if_neg (by omega)]; exact h2.pE rfl
  refine ⟨a4, ?_, ?_⟩
  · unfold rowL; rw [if_pos a4, a2]; exact h2.pL rfl
  · unfold rowX rowS; rw [if_pos a4, a2, a3]; simp; omega
theorem row_At {l : List UInt8} {i most : Int} (h : rowE l i most = 0) : At l i (rowS (rowL l i most)) ∧ rowX l i most = i + (rowS (rowL l i most)).length := by
  obtain ⟨a, b, c, d, e, f, g⟩ := rowE_ok h
  obtain ⟨h1, h2⟩ := count_At a
  have h3 := part_At d
  rw [← f] at h3
  have e1 : rowS (rowL l i most) = countS (countN l i) ++ rowL l i most := by unfold rowS; rw [g]
  rw [e1]
  refine ⟨h1.join (by rw [← h2]; exact h3), ?_⟩
  simp only [List.length_append]; omega

/-! points -/
theorem At.sub {l s t : List UInt8} {i j k : Int} (h : At l i s) (hk : k = s.length) (hj : 0 ≤ j) (ht : At l (i + j) t) (hl : j + t.length ≤ s.length) : At (partL l i k) j t := by
  rw [h.pL hk]
  obtain ⟨a, b, e, h1⟩ := h
  obtain ⟨a', b', e', h2⟩ := ht
  have e3 : t = ((a ++ s ++ b).drop a'.length).take t.length := by rw [← e, e']; simp
  have e4 : t = (s.drop j.toNat).take t.length := by
    have q : a'.length = a.length + j.toNat := by omega
    rw [q, ← List.drop_drop] at e3
    rw [List.append_assoc, List.drop_left, List.drop_append_of_le_length (by omega), List.take_append_of_le_length (by simp; omega)] at e3
    exact e3
  refine ⟨s.take j.toNat, (s.drop j.toNat).drop t.length, ?_, by simp; omega⟩
  conv => rhs; rw [e4]
  rw [List.append_assoc, List.length_take, List.length_drop, Nat.min_eq_left (by omega), List.take_append_drop, List.take_append_drop]
theorem At.pt {l tx : List UInt8} {i n ht : Int} (hx : tx.length = 32) (hn : 0 ≤ n ∧ n ≤ 65535 ∧ 0 ≤ ht ∧ ht ≤ 4294967295) (h : At l i (pointB tx n ht)) : ptE l i = 0 ∧ (ptH l i).l = tx ∧ ptN l i = n ∧ ptT l i = ht ∧ ptX l i = i + 38 := by
  have hl := pointB_len hx hn
  have f1 : Fit n 2 := ⟨hn.1, .inl ⟨rfl, hn.2.1⟩⟩
  have f2 : Fit ht 4 := ⟨hn.2.2.1, .inr (.inl ⟨rfl, hn.2.2.2⟩)⟩
  have l1 := putL_len f1
  have l2 := putL_len f2
  have e : ptE l i = 0 := h.pE (by omega)
  have h0 := h
  unfold pointB at h
  have h1 := h.left.right
  have h2 := h.right
  simp only [List.length_append] at h2
  have p1 := h0.sub (k := 38) (by omega) (by omega) h1 (by omega)
  have p2 := h0.sub (k := 38) (j := 34) (by omega) (by omega) (t := putL ht 4) (by
    have : i + 34 = i + ((tx.length + (putL n 2).length : Nat) : Int) := by omega
    rw [this]; exact h2) (by omega)
  rw [hx] at p1
  have g1 := p1.put f1
  have g2 := p2.put f2
  refine ⟨e, ?_, ?_, ?_, ?_⟩
  · unfold ptH; rw [if_pos e, h0.pL (by omega)]
    unfold pointB
    rw [List.append_assoc, ← hx, List.take_left, toH_l hx]
  · unfold ptN; rw [if_pos e]; exact g1.2
  · unfold ptT; rw [if_pos e]; exact g2.2
  · unfold ptX; rw [if_pos e]
theorem At.up {l s : List UInt8} {i j k : Int} (h : partE l i k = 0) (ht : At (partL l i k) j s) : At l (i + j) s := by
  obtain ⟨a, b, e, h1⟩ := part_At h
  obtain ⟨a', b', e', h2⟩ := ht
  exact ⟨a ++ a', b' ++ b, by rw [e, e']; simp, by simp; omega⟩
theorem pt_At {l : List UInt8} {i : Int} (h : ptE l i = 0) : At l i (pointB (ptH l i).l (ptN l i) (ptT l i)) := by
  have h0 : partE l i 38 = 0 := h
  have hl := partL_len h0
  have k1 : getE (partL l i 38) 32 2 = 0 := by
    unfold getE; rw [if_pos (by decide)]; unfold partE; rw [if_neg (by omega), if_neg (by omega)]
  have k2 : getE (partL l i 38) 34 4 = 0 := by
    unfold getE; rw [if_pos (by decide)]; unfold partE; rw [if_neg (by omega), if_neg (by omega)]
  have q1 := get_put (by omega) k1
  have q2 := get_put (by omega) k2
  have l1 := putL_len q1.2
  have eN : ptN l i = getN (partL l i 38) 32 2 := by unfold ptN; rw [if_pos h]
  have eT : ptT l i = getN (partL l i 38) 34 4 := by unfold ptT; rw [if_pos h]
  have eH : (ptH l i).l = (partL l i 38).take 32 := by unfold ptH; rw [if_pos h, toH_l (by simp; omega)]
  have l3 : ((partL l i 38).take 32).length = 32 := by simp; omega
  rw [eN, eT, eH]
  have a1 : At (partL l i 38) 0 ((partL l i 38).take 32) := ⟨[], (partL l i 38).drop 32, by simp, rfl⟩
  have a2 : At (partL l i 38) 0 ((partL l i 38).take 32 ++ putL (getN (partL l i 38) 32 2) 2) := a1.join (by rw [l3]; exact q1.1)
  have a3 := At.join a2 (t := putL (getN (partL l i 38) 34 4) 4) (by
    have : (0 : Int) + (((partL l i 38).take 32 ++ putL (getN (partL l i 38) 32 2) 2).length : Nat) = 34 := by simp only [List.length_append]; omega
    rw [this]; exact q2.1)
  have := At.up h0 a3
  simpa [pointB] using this

/-! outputs -/
theorem At.go {l lock : List UInt8} {i v : Int} (hv : 0 ≤ v) (hm : mayO v lock) (h : At l i (outL v lock)) : goE l i = 0 ∧ goV l i = v ∧ goL l i = lock ∧ goX l i = i + (outL v lock).length := by
  have f1 : Fit v 8 := ⟨hv, .inr (.inr ⟨rfl, by have := hm.1; omega⟩)⟩
  have l1 := putL_len f1
  have eo : outL v lock = putL v 8 ++ rowS lock := by unfold outL; rw [if_pos hm]
  rw [eo] at h ⊢
  have g1 := h.left.put f1
  have h2 := h.right
  rw [l1] at h2
  have g2 := h2.row (most := 100) (by have := hm.2; omega) (by have := hm.2; omega)
  have e1 : valE l i = 0 := by unfold valE; rw [g1.1, g1.2, if_neg (by have := hm.1; omega)]
  have e2 : goE l i = 0 := by unfold goE; rw [if_neg (by omega)]; exact g2.1
  refine ⟨e2, ?_, ?_, ?_⟩
  · unfold goV; rw [if_pos e2]; exact g1.2
  · unfold goL; rw [if_pos e2]; exact g2.2.1
  · unfold goX; rw [if_pos e2, g2.2.2]; simp only [List.length_append]; omega
theorem go_At {l : List UInt8} {i : Int} (h : goE l i = 0) : mayO (goV l i) (goL l i) ∧ At l i (outL (goV l i) (goL l i)) ∧ goX l i = i + (outL (goV l i) (goL l i)).length := by
  have hb := go_ok l i
  have hm : mayO (goV l i) (goL l i) := ⟨by omega, by omega⟩
  refine ⟨hm, ?_⟩
  have eo : outL (goV l i) (goL l i) = putL (goV l i) 8 ++ rowS (goL l i) := by unfold outL; rw [if_pos hm]
  have h0 := h
  unfold goE at h; split at h
  · contradiction
  · rename_i h1
    have h1 : valE l i = 0 := by omega
    have h2 : getE l i 8 = 0 := by unfold valE at h1; split at h1 <;> omega
    have q := get_put (by omega) h2
    have l1 := putL_len q.2
    have eV : goV l i = getN l i 8 := by unfold goV; rw [if_pos h0]
    have eL : goL l i = rowL l (i + 8) 100 := by unfold goL; rw [if_pos h0]
    have eX : goX l i = rowX l (i + 8) 100 := by unfold goX; rw [if_pos h0]
    have r := row_At h
    rw [eo, eV, eL, eX]
    refine ⟨q.1.join (by rw [l1]; exact r.1), ?_⟩
    rw [r.2]; simp only [List.length_append]; omega

/-! transactions -/
def inKB (k : InK) : List UInt8 := pointB k.1 k.2.1 k.2.2.1 ++ rowS k.2.2.2
def outKB (k : OutK) : List UInt8 := outL k.1 k.2
theorem insB_K (gs : List InG) : insB gs = (gs.map inK).flatMap inKB := by simp only [insB, List.flatMap_map]; rfl
theorem outsB_K (gs : List OutG) : outsB gs = (gs.map outK).flatMap outKB := by simp only [outsB, List.flatMap_map]; rfl
theorem cut_at {α : Type} {f : α → List UInt8} {l : List UInt8} {i : Int} {gs : List α} {k : Nat} (h : At l i (gs.flatMap f)) (hk : k < gs.length) : At l (i + ((gs.take k).flatMap f).length) (f gs[k]) := by
  have e : gs.flatMap f = (gs.take k).flatMap f ++ (f gs[k] ++ (gs.drop (k + 1)).flatMap f) := by
    conv => lhs; rw [← List.take_append_drop k gs, List.drop_eq_getElem_cons hk]
    rw [List.flatMap_append, List.flatMap_cons]
  rw [e] at h
  exact h.right.left
theorem take_flat {α : Type} {f : α → List UInt8} {gs : List α} {k : Nat} (hk : k < gs.length) : (gs.take (k + 1)).flatMap f = (gs.take k).flatMap f ++ f gs[k] := by
  rw [List.take_succ_eq_append_getElem hk, List.flatMap_append, List.flatMap_cons, List.flatMap_nil, List.append_nil]
theorem gI_put {l : List UInt8} {i : Int} {gs : List InG} (h : At l i (insB gs)) (ho : InsOk gs) (hn : InsN gs) : ∀ k, k ≤ gs.length → gI l i k = ⟨(gs.take k).map inK, i + ((gs.take k).flatMap inB).length, 0⟩
  | 0, _ => by simp [gI]
  | k + 1, hk => by
    have ih := gI_put h ho hn k (by omega)
    have hlt : k < gs.length := hk
    have h1 := cut_at h hlt
    have hm : gs[k] ∈ gs := List.getElem_mem _
    have n1 := hn _ hm
    have o1 := ho _ hm
    have hi1 : At l (i + ((gs.take k).flatMap inB).length) (pointB gs[k].tx.l gs[k].n gs[k].ht ++ rowS gs[k].ul) := h1
    have p1 := hi1.left.pt gs[k].tx.len n1
    have h2 := hi1.right
    rw [pointB_len gs[k].tx.len n1] at h2
    have p2 := h2.row (most := 3000) (by omega) (by omega)
    have e1 : (gI l i k).e = 0 := by rw [ih]
    have e2 : (gI l i k).next = i + ((gs.take k).flatMap inB).length := by rw [ih]
    rw [gI_ok e1 (by rw [e2]; exact p1.1) (by rw [e2]; exact p2.1), e2, p1.2.1, p1.2.2.1, p1.2.2.2.1]
    have p22 : rowL l (i + ((gs.take k).flatMap inB).length + 38) 3000 = gs[k].ul := p2.2.1
    have p23 : rowX l (i + ((gs.take k).flatMap inB).length + 38) 3000 = i + ((gs.take k).flatMap inB).length + 38 + (rowS gs[k].ul).length := p2.2.2
    rw [p22, p23, ih, take_flat hlt, List.take_succ_eq_append_getElem hlt]
    have l3 : (inB gs[k]).length = 38 + (rowS gs[k].ul).length := by simp only [inB, List.length_append, pointB_len gs[k].tx.len n1]
    simp only [List.map_append, List.map_cons, List.map_nil, List.length_append, l3]
    congr 1
    omega
theorem gO_put {l : List UInt8} {i : Int} {gs : List OutG} (h : At l i (outsB gs)) (ho : OutsOk gs) (hn : OutsN gs) : ∀ k, k ≤ gs.length → gO l i k = ⟨(gs.take k).map outK, i + ((gs.take k).flatMap fun o => outL o.value o.lock).length, 0⟩
  | 0, _ => by simp [gO]
  | k + 1, hk => by
    have ih := gO_put h ho hn k (by omega)
    have hlt : k < gs.length := hk
    have h1 := cut_at h hlt
    have hm : gs[k] ∈ gs := List.getElem_mem _
    have n1 := hn _ hm
    have p1 := h1.go n1.1 (ho _ hm)
    have e1 : (gO l i k).e = 0 := by rw [ih]
    have e2 : (gO l i k).next = i + ((gs.take k).flatMap fun o => outL o.value o.lock).length := by rw [ih]
    rw [gO_ok e1 (by rw [e2]; exact p1.1), e2, p1.2.1, p1.2.2.1, p1.2.2.2, ih, take_flat hlt, List.take_succ_eq_append_getElem hlt]
    simp only [List.map_append, List.map_cons, List.map_nil, List.length_append]
    congr 1
    omega
theorem gI_At {l : List UInt8} {i : Int} : ∀ (k : Nat), (gI l i k).e = 0 → At l i [] → At l i ((gI l i k).xs.flatMap inKB) ∧ (gI l i k).next = i + ((gI l i k).xs.flatMap inKB).length ∧ (gI l i k).xs.length = k ∧ ∀ x ∈ (gI l i k).xs, x.2.2.2.length ≤ 3000
  | 0, _, h => by simp [gI, h]
  | k + 1, h, hz => by
    by_cases h0 : (gI l i k).e = 0
    · by_cases h1 : ptE l (gI l i k).next = 0
      · by_cases h2 : rowE l ((gI l i k).next + 38) 3000 = 0
        · rw [gI_ok h0 h1 h2]
          obtain ⟨q1, q2, q3, q4⟩ := gI_At k h0 hz
          have t1 := pt_At h1
          have t2 := row_At h2
          have t3 := (rowE_b h2).2.2.2.2.2
          have hb := pt_b l (gI l i k).next
          have l1 := pointB_len (ptH l (gI l i k).next).len hb
          have t4 : At l (gI l i k).next (inKB ((ptH l (gI l i k).next).l, ptN l (gI l i k).next, ptT l (gI l i k).next, rowL l ((gI l i k).next + 38) 3000)) := t1.join (by rw [l1]; exact t2.1)
          have l2 : (inKB ((ptH l (gI l i k).next).l, ptN l (gI l i k).next, ptT l (gI l i k).next, rowL l ((gI l i k).next + 38) 3000)).length = 38 + (rowS (rowL l ((gI l i k).next + 38) 3000)).length := by simp only [inKB, List.length_append, l1]
          refine ⟨?_, ?_, by simp [q3], ?_⟩
          · simp only [List.flatMap_append, List.flatMap_cons, List.flatMap_nil, List.append_nil]
            exact q1.join (by rw [← q2]; exact t4)
          · simp only [List.flatMap_append, List.flatMap_cons, List.flatMap_nil, List.append_nil, List.length_append, l2]
            rw [t2.2]; omega
          · intro x hx
            rcases List.mem_append.1 hx with hx | hx
            · exact q4 x hx
            · rw [List.mem_singleton.1 hx]; simp only; omega
        · exact absurd (by rw [← gI_e2 (Nat.lt_succ_self k) h0 h1 h2]; exact h) h2
      · exact absurd (by rw [← gI_e1 (Nat.lt_succ_self k) h0 h1]; exact h) h1
    · exact absurd (by rw [gI_stop h0 (k + 1) (Nat.le_succ k)] at h; exact h) h0
theorem gO_At {l : List UInt8} {i : Int} : ∀ (k : Nat), (gO l i k).e = 0 → At l i [] → At l i ((gO l i k).xs.flatMap outKB) ∧ (gO l i k).next = i + ((gO l i k).xs.flatMap outKB).length ∧ (gO l i k).xs.length = k ∧ ∀ x ∈ (gO l i k).xs, mayO x.1 x.2
  | 0, _, h => by simp [gO, h]
  | k + 1, h, hz => by
    by_cases h0 : (gO l i k).e = 0
    · by_cases h1 : goE l (gO l i k).next = 0
      · rw [gO_ok h0 h1]
        obtain ⟨q1, q2, q3, q4⟩ := gO_At k h0 hz
        have t1 := go_At h1
        refine ⟨?_, ?_, by simp [q3], ?_⟩
        · simp only [List.flatMap_append, List.flatMap_cons, List.flatMap_nil, List.append_nil]
          exact q1.join (by rw [← q2]; exact t1.2.1)
        · simp only [List.flatMap_append, List.flatMap_cons, List.flatMap_nil, List.append_nil, List.length_append, outKB]
          rw [t1.2.2]; omega
        · intro x hx
          rcases List.mem_append.1 hx with hx | hx
          · exact q4 x hx
          · rw [List.mem_singleton.1 hx]; exact t1.1
      · exact absurd (by rw [← gO_e1 (Nat.lt_succ_self k) h0 h1]; exact h) h1
    · exact absurd (by rw [gO_stop h0 (k + 1) (Nat.le_succ k)] at h; exact h) h0
/-- what is put is got -/
theorem tx_back {ins : List InG} {outs : List OutG} {after : Int} {l : List UInt8} {i : Int} (hm : TxMay ins outs after) (hn1 : InsN ins) (hn2 : OutsN outs) (ha : 0 ≤ after ∧ after ≤ 4294967295) (h : At l i (txB ins outs after)) :
    tgE l i = 0 ∧ tgI l i = ins.map inK ∧ tgO l i = outs.map outK ∧ tgA l i = after ∧ tgX l i = i + (txB ins outs after).length := by
  obtain ⟨m1, m2, m3, m4, m5⟩ := hm
  have h0 := h
  unfold txB at h
  have c1 := h.left.left.left.left.count ⟨by omega, by omega⟩
  have s1 := h.left.left.left.right
  have s2 := h.left.left.right
  have s3 := h.left.right
  have s4 := h.right
  rw [← c1.2.2] at s1
  have eI := gI_put s1 m3 hn1 ins.length (Nat.le_refl _)
  have aI0 : aI l i = ⟨ins.map inK, countX l i + (insB ins).length, 0⟩ := by
    unfold aI; rw [c1.2.1, Int.toNat_natCast, eI, List.take_length]; rfl
  have c2 := s2.count ⟨by omega, by omega⟩
  have x2 : (aI l i).next = i + ((countS ins.length ++ insB ins).length : Nat) := by rw [aI0, c1.2.2]; simp only [List.length_append]; omega
  rw [← x2] at c2
  have eO := gO_put (i := countX l (aI l i).next) (by
    have : countX l (aI l i).next = i + ((countS ins.length ++ insB ins ++ countS outs.length).length : Nat) := by rw [c2.2.2, x2]; simp only [List.length_append]; omega
    rw [this]; exact s3) m4 hn2 outs.length (Nat.le_refl _)
  have aO0 : aO l i = ⟨outs.map outK, countX l (aI l i).next + (outsB outs).length, 0⟩ := by
    unfold aO; rw [c2.2.1, Int.toNat_natCast, eO, List.take_length]; rfl
  have x3 : (aO l i).next = i + ((countS ins.length ++ insB ins ++ countS outs.length ++ outsB outs).length : Nat) := by rw [aO0, c2.2.2, x2]; simp only [List.length_append]; omega
  have f4 : Fit after 4 := ⟨ha.1, .inr (.inl ⟨rfl, ha.2⟩)⟩
  have g4 := s4.put f4
  have l4 := putL_len f4
  rw [← x3] at g4
  have x4 : (aO l i).next + 4 = i + (txB ins outs after).length := by rw [x3]; unfold txB; simp only [List.length_append]; omega
  have e1 : (aI l i).e = 0 := by rw [aI0]
  have e2 : (aO l i).e = 0 := by rw [aO0]
  have z : tgE l i = 0 := by
    unfold tgE
    rw [if_neg (by omega), if_neg (by omega), if_neg (by omega), if_neg (by omega), if_neg (by omega), if_neg (by omega), if_neg (by omega), if_neg (by omega)]
  refine ⟨z, ?_, ?_, ?_, ?_⟩
  · unfold tgI; rw [if_pos z, aI0]
  · unfold tgO; rw [if_pos z, aO0]
  · unfold tgA; rw [if_pos z]; exact g4.2
  · unfold tgX; rw [if_pos z]; exact x4
/-- what is got is put as the same bytes -/
theorem tx_forth {l : List UInt8} {i : Int} (z : tgE l i = 0) : (0 ≤ tgA l i ∧ tgA l i ≤ 4294967295) ∧ (0 ≤ i ∧ i ≤ tgX l i ∧ tgX l i ≤ l.length) ∧ ∀ {gi : List InG} {go : List OutG} (hgi : gi.map inK = tgI l i) (hgo : go.map outK = tgO l i),
    TxMay gi go (tgA l i) ∧ At l i (txB gi go (tgA l i)) ∧ tgX l i = i + (txB gi go (tgA l i)).length := by
  have z0 := z
  unfold tgE at z
  split at z; · contradiction
  split at z; · cases z
  split at z; · contradiction
  split at z; · contradiction
  split at z; · cases z
  split at z; · contradiction
  split at z; · contradiction
  split at z; · cases z
  rename_i c1 c2 c3 c4 c5 c6 c7 c8
  have d1 := count_At (l := l) (i := i) (by omega)
  have n1 := countN_b l i
  have e1 : (aI l i).e = 0 := by omega
  have zero : ∀ {j : Int} {s : List UInt8}, At l j s → At l (j + s.length) [] := fun {j s} h => by
    have : At l j (s ++ []) := by simpa using h
    exact this.right
  have d2 := gI_At (l := l) (i := countX l i) (countN l i).toNat (by unfold aI at e1; exact e1) (by rw [d1.2]; exact zero d1.1)
  have aI0 : gI l (countX l i) (countN l i).toNat = aI l i := rfl
  rw [aI0] at d2
  have d3 := count_At (l := l) (i := (aI l i).next) (by omega)
  have n3 := countN_b l (aI l i).next
  have e3 : (aO l i).e = 0 := by omega
  have d4 := gO_At (l := l) (i := countX l (aI l i).next) (countN l (aI l i).next).toNat (by unfold aO at e3; exact e3) (by rw [d3.2]; exact zero d3.1)
  have aO0 : gO l (countX l (aI l i).next) (countN l (aI l i).next).toNat = aO l i := rfl
  rw [aO0] at d4
  have d5 := get_put (l := l) (i := (aO l i).next) (k := 4) (by omega) (by omega)
  have l5 := putL_len d5.2
  have b5 := d5.1.b
  have b1 := d1.1.b
  have eA : tgA l i = getN l (aO l i).next 4 := by unfold tgA; rw [if_pos z0]
  have eX : tgX l i = (aO l i).next + 4 := by unfold tgX; rw [if_pos z0]
  refine ⟨by rw [eA]; exact ⟨d5.2.1, getN_4 _ _⟩, ⟨by omega, by omega, by omega⟩, fun {gi go} hgi hgo => ?_⟩
  have eI : gi.map inK = (aI l i).xs := by rw [hgi]; unfold tgI; rw [if_pos z0]
  have eO : go.map outK = (aO l i).xs := by rw [hgo]; unfold tgO; rw [if_pos z0]
  have k1 : (gi.length : Int) = countN l i := by
    have := congrArg List.length eI
    rw [List.length_map, d2.2.2.1] at this; omega
  have k2 : (go.length : Int) = countN l (aI l i).next := by
    have := congrArg List.length eO
    rw [List.length_map, d4.2.2.1] at this; omega
  have o1 : InsOk gi := fun g hg => by
    have := d2.2.2.2 (inK g) (by rw [← eI]; exact List.mem_map_of_mem hg)
    exact this
  have o2 : OutsOk go := fun g hg => by
    have := d4.2.2.2 (outK g) (by rw [← eO]; exact List.mem_map_of_mem hg)
    exact this
  have b1 : insB gi = (aI l i).xs.flatMap inKB := by rw [insB_K, eI]
  have b2 : outsB go = (aO l i).xs.flatMap outKB := by rw [outsB_K, eO]
  have a1 : At l i (countS gi.length ++ insB gi) := by
    rw [k1, b1]; exact d1.1.join (by rw [← d1.2]; exact d2.1)
  have x1 : (aI l i).next = i + ((countS gi.length ++ insB gi).length : Nat) := by rw [d2.2.1, d1.2, k1, b1]; simp only [List.length_append]; omega
  have a2 : At l i (countS gi.length ++ insB gi ++ countS go.length) := a1.join (by rw [← x1, k2]; exact d3.1)
  have x2 : countX l (aI l i).next = i + ((countS gi.length ++ insB gi ++ countS go.length).length : Nat) := by rw [d3.2, k2, x1]; simp only [List.length_append]; omega
  have a3 : At l i (countS gi.length ++ insB gi ++ countS go.length ++ outsB go) := a2.join (by rw [← x2, b2]; exact d4.1)
  have x3 : (aO l i).next = i + ((countS gi.length ++ insB gi ++ countS go.length ++ outsB go).length : Nat) := by rw [d4.2.1, x2, b2]; simp only [List.length_append]; omega
  have a4 : At l i (txB gi go (tgA l i)) := by
    unfold txB; rw [eA]; exact a3.join (by rw [← x3]; exact d5.1)
  have x4 : tgX l i = i + (txB gi go (tgA l i)).length := by
    rw [eX, x3]; unfold txB; rw [eA]; simp only [List.length_append]; omega
  exact ⟨⟨by omega, by omega, o1, o2, by omega⟩, a4, x4⟩
end Go.Proofs.YtalainpmlonahaaDoor
