/-
  Blocks: what is put is got, what is got is put as the same bytes; no Go in sight.
-/
import Derived.Test.YtalainpmlonahaaDoorBq
set_option linter.all false
set_option maxRecDepth 100000
namespace Go.Proofs.YtalainpmlonahaaDoor
open Go.RowKit

theorem At.nil {l s : List UInt8} {j : Int} (h : At l j s) : At l (j + s.length) [] := by
  have : At l j (s ++ []) := by simpa using h
  exact this.right
theorem hd_back {prev root : List UInt8} {t b n : Int} {l : List UInt8} {i : Int} (h1 : prev.length = 32) (h2 : root.length = 32) (hn : HdN t b n) (h : At l i (headB prev root t b n)) :
    hdE l i = 0 ∧ hdV l i = ⟨toH prev, toH root, t, b, n⟩ ∧ hdX l i = i + 76 := by
  have hl := headB_len h1 h2 hn
  have p1 : partE l i 76 = 0 := h.pE (by omega)
  have p2 : partL l i 76 = headB prev root t b n := h.pL (by omega)
  have e0 : hdE l i = 0 := p1
  have f1 : Fit t 4 := ⟨hn.1.1, .inr (.inl ⟨rfl, hn.1.2⟩)⟩
  have f2 : Fit b 4 := ⟨hn.2.1.1, .inr (.inl ⟨rfl, hn.2.1.2⟩)⟩
  have f3 : Fit n 4 := ⟨hn.2.2.1, .inr (.inl ⟨rfl, hn.2.2.2⟩)⟩
  have l1 := putL_len f1
  have l2 := putL_len f2
  have a0 : At (headB prev root t b n) 0 (prev ++ root ++ putL t 4 ++ putL b 4 ++ putL n 4) := ⟨[], [], by simp [headB], rfl⟩
  have c1 : At (headB prev root t b n) 64 (putL t 4) := by have := a0.left.left.right; simp only [List.length_append, h1, h2] at this; exact this
  have c2 : At (headB prev root t b n) 68 (putL b 4) := by
    have := a0.left.right
    have e : (0 : Int) + ((prev ++ root ++ putL t 4).length : Nat) = 68 := by simp only [List.length_append, h1, h2]; omega
    rw [e] at this; exact this
  have c3 : At (headB prev root t b n) 72 (putL n 4) := by
    have := a0.right
    have e : (0 : Int) + ((prev ++ root ++ putL t 4 ++ putL b 4).length : Nat) = 72 := by simp only [List.length_append, h1, h2]; omega
    rw [e] at this; exact this
  have t1 : (headB prev root t b n).take 32 = prev := by
    unfold headB; simp only [List.append_assoc]; rw [← h1, List.take_left]
  have t2 : ((headB prev root t b n).drop 32).take 32 = root := by
    unfold headB; simp only [List.append_assoc]; rw [← h1, List.drop_left, h1, ← h2, List.take_left]
  refine ⟨e0, ?_, ?_⟩
  · unfold hdV; rw [if_pos e0, p2]; unfold hdG
    rw [t1, t2, (c1.put f1).2, (c2.put f2).2, (c3.put f3).2]
  · unfold hdX; rw [if_pos e0]
theorem hd_forth {l : List UInt8} {i : Int} (h : hdE l i = 0) : At l i (hdV l i).b := by
  have hp : partE l i 76 = 0 := h
  have a := part_At hp
  have hl := partL_len hp
  have e : hdV l i = hdG (partL l i 76) := if_pos h
  have key : (hdG (partL l i 76)).b = partL l i 76 := by
    generalize partL l i 76 = p at hl
    have hl : p.length = 76 := by omega
    have e1 : (toH (p.take 32)).l = p.take 32 := toH_l (by simp; omega)
    have e2 : (toH ((p.drop 32).take 32)).l = (p.drop 32).take 32 := toH_l (by simp; omega)
    have g : ∀ j : Int, 0 ≤ j → j + 4 ≤ 76 → At p j (putL (getN p j 4) 4) ∧ (putL (getN p j 4) 4).length = 4 := fun j h0 h1 => by
      have h2 : getE p j 4 = 0 := by
        unfold getE; rw [if_pos (by decide)]; unfold partE; rw [if_neg (by omega), if_neg (by omega)]
      obtain ⟨h3, h4⟩ := get_put (.inr (.inl rfl)) h2
      have := putL_len h4
      exact ⟨h3, by omega⟩
    obtain ⟨g1, m1⟩ := g 64 (by omega) (by omega)
    obtain ⟨g2, m2⟩ := g 68 (by omega) (by omega)
    obtain ⟨g3, m3⟩ := g 72 (by omega) (by omega)
    have k0 : At p 0 (p.take 32 ++ (p.drop 32).take 32) := ⟨[], (p.drop 32).drop 32, by
      simp only [List.nil_append, List.append_assoc]; rw [List.take_append_drop, List.take_append_drop], rfl⟩
    have n0 : (p.take 32 ++ (p.drop 32).take 32).length = 64 := by simp; omega
    have k1 := k0.join (t := putL (getN p 64 4) 4) (by rw [n0]; exact g1)
    have n1 : (p.take 32 ++ (p.drop 32).take 32 ++ putL (getN p 64 4) 4).length = 68 := by rw [List.length_append, n0, m1]
    have k2 := k1.join (t := putL (getN p 68 4) 4) (by rw [n1]; exact g2)
    have n2 : (p.take 32 ++ (p.drop 32).take 32 ++ putL (getN p 64 4) 4 ++ putL (getN p 68 4) 4).length = 72 := by rw [List.length_append, n1, m2]
    have k3 := k2.join (t := putL (getN p 72 4) 4) (by rw [n2]; exact g3)
    have n3 : (p.take 32 ++ (p.drop 32).take 32 ++ putL (getN p 64 4) 4 ++ putL (getN p 68 4) 4 ++ putL (getN p 72 4) 4).length = 76 := by rw [List.length_append, n2, m3]
    have k4 := k3.zero
    rw [n3, ← hl, List.take_length] at k4
    show headB (toH (p.take 32)).l (toH ((p.drop 32).take 32)).l (getN p 64 4) (getN p 68 4) (getN p 72 4) = p
    rw [e1, e2]; exact k4
  rw [e, key]; exact a
theorem txe_b {g : TxG} (h : g.e = 0) : g.b = txB g.ins g.outs g.after ∧ TxMay g.ins g.outs g.after := by
  have hm : TxMay g.ins g.outs g.after := by
    unfold TxG.e txE at h; split at h
    · assumption
    · cases h
  exact ⟨by unfold TxG.b txL; rw [if_pos hm], hm⟩
theorem gT_put {l : List UInt8} {i : Int} {ts : List TxG} (h : At l i (ts.flatMap TxG.b)) (ho : ∀ g ∈ ts, g.e = 0) (hn : TxsN ts) : ∀ k, k ≤ ts.length → gT l i k = ⟨(ts.take k).map txK, i + ((ts.take k).flatMap TxG.b).length, 0⟩
  | 0, _ => by simp [gT]
  | k + 1, hk => by
    have ih := gT_put h ho hn k (by omega)
    have hlt : k < ts.length := hk
    have h1 := cut_at h hlt
    have hm : ts[k] ∈ ts := List.getElem_mem _
    obtain ⟨n1, n2, n3⟩ := hn _ hm
    obtain ⟨b1, b2⟩ := txe_b (ho _ hm)
    rw [b1] at h1
    have p1 := tx_back b2 n2 n3 n1 h1
    have e1 : (gT l i k).e = 0 := by rw [ih]
    have e2 : (gT l i k).next = i + ((ts.take k).flatMap TxG.b).length := by rw [ih]
    rw [gT_ok e1 (by rw [e2]; exact p1.1), e2, p1.2.1, p1.2.2.1, p1.2.2.2.1, p1.2.2.2.2, ih, take_flat hlt, List.take_succ_eq_append_getElem hlt, b1]
    simp only [List.map_append, List.map_cons, List.map_nil, List.length_append]
    refine congr (congr (congrArg _ rfl) ?_) rfl
    omega
theorem gT_At {l : List UInt8} {i : Int} : ∀ (k : Nat), (gT l i k).e = 0 → At l i [] → ∀ ts : List TxG, ts.map txK = (gT l i k).xs → At l i (ts.flatMap TxG.b) ∧ (gT l i k).next = i + (ts.flatMap TxG.b).length ∧ ts.length = k ∧ ∀ g ∈ ts, g.e = 0
  | 0, _, h, ts, ht => by
    obtain rfl : ts = [] := by simpa [gT] using ht
    simp [gT, h]
  | k + 1, h, hz, ts, ht => by
    by_cases h0 : (gT l i k).e = 0
    · by_cases h1 : tgE l (gT l i k).next = 0
      · rw [gT_ok h0 h1] at ht ⊢
        simp only at ht ⊢
        obtain ⟨ta, tb, rfl, t1, t2⟩ := List.map_eq_append_iff.1 ht
        obtain ⟨g, rfl, t3⟩ : ∃ g, tb = [g] ∧ txK g = (tgI l (gT l i k).next, tgO l (gT l i k).next, tgA l (gT l i k).next) := by
          rcases tb with _ | ⟨g, _ | _⟩
          · simp at t2
          · exact ⟨g, rfl, by simpa using t2⟩
          · simp at t2
        obtain ⟨q1, q2, q3, q4⟩ := gT_At k h0 hz ta t1
        obtain ⟨_, _, f3⟩ := tx_forth h1
        simp only [txK, Prod.mk.injEq] at t3
        obtain ⟨k1, k2, k3⟩ := t3
        obtain ⟨m1, m2, m3⟩ := f3 k1 k2
        rw [← k3] at m1 m2 m3
        have ge : g.e = 0 := by unfold TxG.e txE; rw [if_pos m1]
        have gb := (txe_b ge).1
        refine ⟨?_, ?_, by simp [q3], ?_⟩
        · simp only [List.flatMap_append, List.flatMap_cons, List.flatMap_nil, List.append_nil]
          exact q1.join (by rw [← q2, gb]; exact m2)
        · simp only [List.flatMap_append, List.flatMap_cons, List.flatMap_nil, List.append_nil, List.length_append, gb]
          rw [m3, q2]; omega
        · intro x hx
          rcases List.mem_append.1 hx with hx | hx
          · exact q4 x hx
          · rw [List.mem_singleton.1 hx]; exact ge
      · exact absurd (by rw [← gT_e1 (Nat.lt_succ_self k) h0 h1]; exact h) h1
    · exact absurd (by rw [gT_stop h0 (k + 1) (Nat.le_succ k)] at h; exact h) h0
theorem block_back {prev root : List UInt8} {t b n : Int} {ts : List TxG} {l : List UInt8} {i : Int} (h1 : prev.length = 32) (h2 : root.length = 32) (hn : HdN t b n) (hts : TxsN ts) (hm : BkMay (headB prev root t b n) ts) (h : At l i (bkB (headB prev root t b n) ts)) :
    bgE l i = 0 ∧ bgH l i = ⟨toH prev, toH root, t, b, n⟩ ∧ bgT l i = ts.map txK ∧ bgX l i = i + (bkB (headB prev root t b n) ts).length := by
  obtain ⟨⟨m1, m2⟩, m3⟩ := hm
  have hl := headB_len h1 h2 hn
  have hh : At l i (headB prev root t b n ++ countS ts.length ++ ts.flatMap TxG.b) := h
  obtain ⟨x1, x2, x3⟩ := hd_back h1 h2 hn hh.left.left
  have c0 := hh.left.right
  rw [hl] at c0
  obtain ⟨c1, c2, c3⟩ := c0.count ⟨by omega, by omega⟩
  have c1 : countE l (i + 76) = 0 := c1
  have c2 : countN l (i + 76) = ts.length := c2
  have c3 : countX l (i + 76) = i + 76 + (countS ts.length).length := c3
  have s1 := hh.right
  have e1 : i + ((headB prev root t b n ++ countS ts.length).length : Nat) = countX l (i + 76) := by rw [c3, List.length_append, hl]; omega
  rw [e1] at s1
  have g1 := gT_put s1 m2 hts ts.length (Nat.le_refl _)
  have bt : bT l i = ⟨ts.map txK, countX l (i + 76) + (ts.flatMap TxG.b).length, 0⟩ := by
    unfold bT; rw [c2, Int.toNat_natCast, g1, List.take_length]
  have nx : (bT l i).next = i + (bkB (headB prev root t b n) ts).length := by
    rw [bt, c3]; simp only [bkB, List.length_append, hl]; omega
  have z : bgE l i = 0 := by
    unfold bgE
    rw [if_neg (by omega), if_neg (by omega), if_neg (by omega), if_neg (by omega), if_neg (by rw [bt]; simp), if_neg (by omega)]
  refine ⟨z, ?_, ?_, ?_⟩
  · unfold bgH; rw [if_pos z, x2]
  · unfold bgT; rw [if_pos z, bt]
  · unfold bgX; rw [if_pos z, nx]
theorem read_back {prev root : List UInt8} {t b n : Int} {ts : List TxG} (h1 : prev.length = 32) (h2 : root.length = 32) (hn : HdN t b n) (hts : TxsN ts) (hm : BkMay (headB prev root t b n) ts) :
    brE (bkL (headB prev root t b n) ts) = 0 ∧ brH (bkL (headB prev root t b n) ts) = ⟨toH prev, toH root, t, b, n⟩ ∧ brT (bkL (headB prev root t b n) ts) = ts.map txK := by
  have e : bkL (headB prev root t b n) ts = bkB (headB prev root t b n) ts := if_pos hm
  rw [e]
  obtain ⟨b1, b2, b3, b4⟩ := block_back (l := bkB (headB prev root t b n) ts) (i := 0) h1 h2 hn hts hm ⟨[], [], by simp, rfl⟩
  have z : brE (bkB (headB prev root t b n) ts) = 0 := by
    unfold brE; rw [if_neg (by omega), if_neg (by omega)]
  refine ⟨z, ?_, ?_⟩
  · unfold brH; rw [if_pos z, b2]
  · unfold brT; rw [if_pos z, b3]
theorem block_forth {l : List UInt8} {i : Int} (z : bgE l i = 0) : (0 ≤ i ∧ i ≤ bgX l i ∧ bgX l i ≤ l.length) ∧ ∀ {ts : List TxG}, ts.map txK = bgT l i →
    BkMay (bgH l i).b ts ∧ At l i (bkB (bgH l i).b ts) ∧ bgX l i = i + (bkB (bgH l i).b ts).length := by
  have z0 := z
  unfold bgE at z
  split at z; · contradiction
  split at z; · contradiction
  split at z; · cases z
  split at z; · cases z
  split at z; · contradiction
  split at z; · cases z
  rename_i c1 c2 c3 c4 c5 c6
  have c1 : hdE l i = 0 := by omega
  obtain ⟨x1, x2, x3⟩ := hdE_ok c1
  have d1 := count_At (l := l) (i := i + 76) (by omega)
  have n1 := countN_b l (i + 76)
  have e1 : (bT l i).e = 0 := by omega
  have eH : bgH l i = hdV l i := if_pos z0
  have eT : bgT l i = (bT l i).xs := if_pos z0
  have eX : bgX l i = (bT l i).next := if_pos z0
  have hA := hd_forth c1
  have hN := hdV_n l i
  have hL : (hdV l i).b.length = 76 := headB_len (hdV l i).prev.len (hdV l i).root.len hN
  have b1 := d1.1.b
  have nb := gT_b (l := l) (i := countX l (i + 76)) (by omega) (countN l (i + 76)).toNat e1
  have nb : countX l (i + 76) ≤ (bT l i).next ∧ (bT l i).next ≤ l.length := nb
  refine ⟨⟨by omega, by omega, by omega⟩, fun {ts} hts => ?_⟩
  rw [eT] at hts
  obtain ⟨q1, q2, q3, q4⟩ := gT_At (countN l (i + 76)).toNat e1 (by rw [d1.2]; exact d1.1.nil) ts hts
  have q2 : (bT l i).next = countX l (i + 76) + (ts.flatMap TxG.b).length := q2
  have k1 : (ts.length : Int) = countN l (i + 76) := by omega
  have a1 : At l i ((hdV l i).b ++ countS ts.length) := hA.join (by rw [hL, k1]; exact d1.1)
  have l1 : i + (((hdV l i).b ++ countS ts.length).length : Nat) = countX l (i + 76) := by rw [d1.2, List.length_append, hL, k1]; omega
  have a2 : At l i (bkB (hdV l i).b ts) := a1.join (by rw [l1]; exact q1)
  have l2 : (bT l i).next = i + (bkB (hdV l i).b ts).length := by
    rw [q2, ← l1]; simp only [bkB, List.length_append]; omega
  rw [eH, eX]
  exact ⟨⟨⟨by omega, q4⟩, by omega⟩, a2, l2⟩
end Go.Proofs.YtalainpmlonahaaDoor
