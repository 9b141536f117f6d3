/-
  PLAIN FUNCTIONS: transactions as bytes; no Go in sight.
-/
import Derived.Test.YtalainpmlonahaaDoorVcoinP
set_option linter.all false
set_option maxHeartbeats 4000000
namespace Go.Proofs.YtalainpmlonahaaDoor

def inB (g : InG) : List UInt8 := pointB g.tx.l g.n g.ht ++ rowS g.ul
def insB (gs : List InG) : List UInt8 := gs.flatMap inB
def outsB (os : List OutG) : List UInt8 := os.flatMap fun o => outL o.value o.lock
def txB (ins : List InG) (outs : List OutG) (after : Int) : List UInt8 := countS ins.length ++ insB ins ++ countS outs.length ++ outsB outs ++ putL after 4
@[reducible] def OutsOk (os : List OutG) : Prop := ∀ o ∈ os, mayO o.value o.lock
@[reducible] def InsOk (gs : List InG) : Prop := ∀ g ∈ gs, g.ul.length ≤ 3000
theorem inB_len {g : InG} (h : g.ul.length ≤ 3000) (hn : 0 ≤ g.n ∧ g.n ≤ 65535 ∧ 0 ≤ g.ht ∧ g.ht ≤ 4294967295) : (inB g).length ≤ 3047 := by
  have h1 := pointB_len g.tx.len hn
  have h2 := rowS_len g.ul
  simp [inB]; omega
theorem flatMap_len {α : Type} {f : α → List UInt8} {m : Nat} : ∀ {l : List α}, (∀ x ∈ l, (f x).length ≤ m) → (l.flatMap f).length ≤ l.length * m
  | [], _ => by simp
  | x :: l, h => by
    have h1 := h x (by simp)
    have h2 := flatMap_len (l := l) fun y hy => h y (by simp [hy])
    simp only [List.flatMap_cons, List.length_append, List.length_cons, Nat.add_mul]; omega
theorem insB_len {gs : List InG} (h : InsOk gs) (hn : InsN gs) (i : Nat) (hi : i ≤ 16) : (insB (gs.take i)).length ≤ 48752 := by
  have h1 := flatMap_len (f := inB) (m := 3047) (l := gs.take i) fun x hx => inB_len (h x (List.mem_of_mem_take hx)) (hn x (List.mem_of_mem_take hx))
  have h2 : (gs.take i).length ≤ 16 := by simp; omega
  have h3 := Nat.mul_le_mul_right 3047 h2
  unfold insB; omega
theorem outsB_len {os : List OutG} (h : OutsOk os) (hn : OutsN os) (i : Nat) (hi : i ≤ 16) : (outsB (os.take i)).length ≤ 1872 := by
  have h1 := flatMap_len (f := fun o : OutG => outL o.value o.lock) (m := 117) (l := os.take i) fun x hx => outL_len _ _ (by
    exact hn x (List.mem_of_mem_take hx))
  have h2 : (os.take i).length ≤ 16 := by simp; omega
  have h3 := Nat.mul_le_mul_right 117 h2
  unfold outsB; omega
theorem flatMap_take {α : Type} [Inhabited α] {f : α → List UInt8} {l : List α} {i : Nat} (h : i < l.length) : (l.take (i + 1)).flatMap f = (l.take i).flatMap f ++ f (ixd l i) := by
  have e : ixd l (i : Int) = l[i] := by rw [ixd_eq (by simpa using h)]; simp
  rw [List.take_succ_eq_append_getElem h, e, List.flatMap_append]; simp
theorem insB_step {gs : List InG} {i : Nat} (h : i < gs.length) : insB (gs.take (i + 1)) = insB (gs.take i) ++ pointB (ixd gs i).tx.l (ixd gs i).n (ixd gs i).ht ++ rowS (ixd gs i).ul := by
  unfold insB; rw [flatMap_take h]; simp [inB]
theorem outsB_step {os : List OutG} {i : Nat} (h : i < os.length) : outsB (os.take (i + 1)) = outsB (os.take i) ++ outL (ixd os i).value (ixd os i).lock := by
  unfold outsB; rw [flatMap_take h]
theorem txB_len {ins : List InG} {outs : List OutG} {after : Int} (h1 : InsOk ins) (h2 : OutsOk outs) (n1 : InsN ins) (n2 : OutsN outs) (h : ins.length ≤ 16 ∧ outs.length ≤ 16 ∧ 0 ≤ after ∧ after ≤ 4294967295) : 6 ≤ (txB ins outs after).length ∧ (txB ins outs after).length ≤ 60000 := by
  have a := insB_len h1 n1 ins.length h.1
  have b := outsB_len h2 n2 outs.length h.2.1
  have c := countS_b ins.length
  have d := countS_b outs.length
  have e := putL_len (n := after) (k := 4) ⟨by omega, by omega⟩
  rw [List.take_length] at a b
  simp only [txB, List.length_append]; omega
def firstLong : List InG → Int → Int
  | [], _ => -1
  | g :: r, k => if 3000 < g.ul.length then k else firstLong r (k + 1)
theorem firstLong_cons (g : InG) (r : List InG) (k : Int) : firstLong (g :: r) k = if 3000 < g.ul.length then k else firstLong r (k + 1) := rfl
theorem firstLong_iff : ∀ {gs : List InG} {k : Int}, 0 ≤ k → (0 ≤ firstLong gs k ↔ ¬ InsOk gs)
  | [], k, h => by simp [firstLong, InsOk]
  | g :: r, k, h => by
    have ih := firstLong_iff (gs := r) (k := k + 1) (by omega)
    unfold firstLong
    split
    · constructor
      · intro _ hh; have := hh g (by simp); omega
      · intro _; exact h
    · rw [ih]
      simp only [InsOk, List.mem_cons, forall_eq_or_imp]
      constructor
      · intro h1 h2; exact h1 h2.2
      · intro h1 h2; exact h1 ⟨by omega, h2⟩
theorem firstLong_b : ∀ {gs : List InG} {k : Int}, 0 ≤ k → firstLong gs k = -1 ∨ (k ≤ firstLong gs k ∧ firstLong gs k < k + gs.length)
  | [], k, h => by simp [firstLong]
  | g :: r, k, h => by
    have ih := firstLong_b (gs := r) (k := k + 1) (by omega)
    unfold firstLong; simp only [List.length_cons]
    split <;> omega
theorem drop_ixd {α : Type} [Inhabited α] {l : List α} {i : Nat} (h : i < l.length) : l.drop i = ixd l i :: l.drop (i + 1) := by
  have e : ixd l (i : Int) = l[i] := by rw [ixd_eq (by simpa using h)]; simp
  rw [List.drop_eq_getElem_cons h, e]
/-- may a transaction be? -/
def TxMay (ins : List InG) (outs : List OutG) (after : Int) : Prop := ins.length ≤ 16 ∧ outs.length ≤ 16 ∧ InsOk ins ∧ OutsOk outs ∧ (txB ins outs after).length ≤ 8000
instance {ins : List InG} {outs : List OutG} {after : Int} : Decidable (TxMay ins outs after) := by unfold TxMay; infer_instance
def txE (ins : List InG) (outs : List OutG) (after : Int) : Int := if TxMay ins outs after then 0 else 2
def txL (ins : List InG) (outs : List OutG) (after : Int) : List UInt8 := if TxMay ins outs after then txB ins outs after else []
theorem outsB_len' {os : List OutG} {i : Nat} (h : OutsOk (os.take i)) (hn : OutsN os) (hi : i ≤ 16) : (outsB (os.take i)).length ≤ 1872 := by
  have := outsB_len (os := os.take i) h (fun o ho => hn o (List.mem_of_mem_take ho)) i hi
  rwa [List.take_take, Nat.min_self] at this
theorem OutsOk_step {os : List OutG} {i : Nat} (h : OutsOk (os.take i)) (hi : i < os.length) (hm : mayO (ixd os i).value (ixd os i).lock) : OutsOk (os.take (i + 1)) := by
  have e : ixd os (i : Int) = os[i] := by rw [ixd_eq (by simpa using hi)]; simp
  rw [List.take_succ_eq_append_getElem hi, ← e]
  intro o ho
  rcases List.mem_append.1 ho with ho | ho
  · exact h o ho
  · rw [List.mem_singleton.1 ho]; exact hm
theorem outE_0 {v : Int} {lock : List UInt8} : outE v lock = 0 ↔ mayO v lock := by
  unfold outE
  by_cases h : mayO v lock
  · rw [if_pos h]; exact ⟨fun _ => h, fun _ => rfl⟩
  · rw [if_neg h]; exact ⟨fun e => absurd e (by decide), fun e => absurd e h⟩
theorem txL_le (ins : List InG) (outs : List OutG) (after : Int) : (txL ins outs after).length ≤ 8000 := by
  unfold txL; split
  · rename_i h; exact h.2.2.2.2
  · simp
/-- what a transaction says -/
def inK (g : InG) : List UInt8 × Int × Int × List UInt8 := (g.tx.l, g.n, g.ht, g.ul)
def outK (o : OutG) : Int × List UInt8 := (o.value, o.lock)
@[reducible] def TxSame (i1 : List InG) (o1 : List OutG) (a1 : Int) (i2 : List InG) (o2 : List OutG) (a2 : Int) : Prop := a1 = a2 ∧ i1.map inK = i2.map inK ∧ o1.map outK = o2.map outK
theorem len_ne {α β : Type} {f : α → β} {a b : List α} (h : a.length ≠ b.length) : a.map f ≠ b.map f := fun e => h (by simpa using congrArg List.length e)
theorem Hsh.ext {a b : Hsh} (h : a.l = b.l) : a = b := by cases a; cases b; cases h; rfl
theorem InsOk_step {gs : List InG} {i : Nat} (h : InsOk (gs.take i)) (hi : i < gs.length) (hm : (ixd gs i).ul.length ≤ 3000) : InsOk (gs.take (i + 1)) := by
  have e : ixd gs (i : Int) = gs[i] := by rw [ixd_eq (by simpa using hi)]; simp
  rw [List.take_succ_eq_append_getElem hi, ← e]
  intro o ho
  rcases List.mem_append.1 ho with ho | ho
  · exact h o ho
  · rw [List.mem_singleton.1 ho]; exact hm
/-! reading -/
structure RdS (α : Type) where
  xs : List α
  next : Int
  e : Int
abbrev InK := List UInt8 × Int × Int × List UInt8
abbrev OutK := Int × List UInt8
def stepI (l : List UInt8) (s : RdS InK) : RdS InK :=
  if s.e ≠ 0 then s else if ptE l s.next ≠ 0 then ⟨s.xs, s.next, ptE l s.next⟩ else
  if rowE l (s.next + 38) 3000 ≠ 0 then ⟨s.xs, s.next, rowE l (s.next + 38) 3000⟩ else
  ⟨s.xs ++ [((ptH l s.next).l, ptN l s.next, ptT l s.next, rowL l (s.next + 38) 3000)], rowX l (s.next + 38) 3000, 0⟩
def gI (l : List UInt8) (i : Int) : Nat → RdS InK
  | 0 => ⟨[], i, 0⟩
  | k + 1 => stepI l (gI l i k)
def stepO (l : List UInt8) (s : RdS OutK) : RdS OutK :=
  if s.e ≠ 0 then s else if goE l s.next ≠ 0 then ⟨s.xs, s.next, goE l s.next⟩ else
  ⟨s.xs ++ [(goV l s.next, goL l s.next)], goX l s.next, 0⟩
def gO (l : List UInt8) (i : Int) : Nat → RdS OutK
  | 0 => ⟨[], i, 0⟩
  | k + 1 => stepO l (gO l i k)
theorem gI_stop {l : List UInt8} {i : Int} {k : Nat} (h : (gI l i k).e ≠ 0) : ∀ m, k ≤ m → gI l i m = gI l i k
  | 0, hm => by obtain rfl : k = 0 := by omega
                rfl
  | m + 1, hm => by
    rcases Nat.lt_or_ge m k with h1 | h1
    · obtain rfl : k = m + 1 := by omega
      rfl
    · have ih := gI_stop h m h1
      rw [gI, ih, stepI, if_pos h]
theorem gO_stop {l : List UInt8} {i : Int} {k : Nat} (h : (gO l i k).e ≠ 0) : ∀ m, k ≤ m → gO l i m = gO l i k
  | 0, hm => by obtain rfl : k = 0 := by omega
                rfl
  | m + 1, hm => by
    rcases Nat.lt_or_ge m k with h1 | h1
    · obtain rfl : k = m + 1 := by omega
      rfl
    · have ih := gO_stop h m h1
      rw [gO, ih, stepO, if_pos h]
/-- where reading stands -/
def aI (l : List UInt8) (i : Int) : RdS InK := gI l (countX l i) (countN l i).toNat
def aO (l : List UInt8) (i : Int) : RdS OutK := gO l (countX l (aI l i).next) (countN l (aI l i).next).toNat
def tgE (l : List UInt8) (i : Int) : Int :=
  if countE l i ≠ 0 then countE l i else if 16 < countN l i then 3 else if (aI l i).e ≠ 0 then (aI l i).e else
  if countE l (aI l i).next ≠ 0 then countE l (aI l i).next else if 16 < countN l (aI l i).next then 3 else if (aO l i).e ≠ 0 then (aO l i).e else
  if getE l (aO l i).next 4 ≠ 0 then getE l (aO l i).next 4 else if 8000 < (aO l i).next + 4 - i then 3 else 0
def tgI (l : List UInt8) (i : Int) : List InK := if tgE l i = 0 then (aI l i).xs else []
def tgO (l : List UInt8) (i : Int) : List OutK := if tgE l i = 0 then (aO l i).xs else []
def tgA (l : List UInt8) (i : Int) : Int := if tgE l i = 0 then getN l (aO l i).next 4 else 0
def tgX (l : List UInt8) (i : Int) : Int := if tgE l i = 0 then (aO l i).next + 4 else 0
/-- a transaction that is answered -/
structure TxV where
  si : Sv
  ni : Nat
  gi : List InG
  so : Sv
  no : Nat
  go : List OutG
  after : Int
theorem tg_no {l : List UInt8} {i e : Int} (h : e ≠ 0) (he : tgE l i = e) : ([] : List InG).map inK = tgI l i ∧ ([] : List OutG).map outK = tgO l i ∧ 0 = tgA l i ∧ 0 = tgX l i ∧ e = tgE l i := by
  have h' : ¬ tgE l i = 0 := by omega
  refine ⟨?_, ?_, ?_, ?_, he.symm⟩
  · unfold tgI; rw [if_neg h']; rfl
  · unfold tgO; rw [if_neg h']; rfl
  · unfold tgA; rw [if_neg h']
  · unfold tgX; rw [if_neg h']
theorem gI_ok {l : List UInt8} {i : Int} {k : Nat} (h0 : (gI l i k).e = 0) (h1 : ptE l (gI l i k).next = 0) (h2 : rowE l ((gI l i k).next + 38) 3000 = 0) :
    gI l i (k + 1) = ⟨(gI l i k).xs ++ [((ptH l (gI l i k).next).l, ptN l (gI l i k).next, ptT l (gI l i k).next, rowL l ((gI l i k).next + 38) 3000)], rowX l ((gI l i k).next + 38) 3000, 0⟩ := by
  simp [gI, stepI, h0, h1, h2]
theorem gI_e1 {l : List UInt8} {i : Int} {k n : Nat} (hk : k < n) (h0 : (gI l i k).e = 0) (h1 : ptE l (gI l i k).next ≠ 0) : (gI l i n).e = ptE l (gI l i k).next := by
  have e : gI l i (k + 1) = ⟨(gI l i k).xs, (gI l i k).next, ptE l (gI l i k).next⟩ := by simp [gI, stepI, h0, h1]
  rw [gI_stop (k := k + 1) (by rw [e]; exact h1) n hk, e]
theorem gI_e2 {l : List UInt8} {i : Int} {k n : Nat} (hk : k < n) (h0 : (gI l i k).e = 0) (h1 : ptE l (gI l i k).next = 0) (h2 : rowE l ((gI l i k).next + 38) 3000 ≠ 0) : (gI l i n).e = rowE l ((gI l i k).next + 38) 3000 := by
  have e : gI l i (k + 1) = ⟨(gI l i k).xs, (gI l i k).next, rowE l ((gI l i k).next + 38) 3000⟩ := by simp [gI, stepI, h0, h1, h2]
  rw [gI_stop (k := k + 1) (by rw [e]; exact h2) n hk, e]
theorem gO_ok {l : List UInt8} {i : Int} {k : Nat} (h0 : (gO l i k).e = 0) (h1 : goE l (gO l i k).next = 0) :
    gO l i (k + 1) = ⟨(gO l i k).xs ++ [(goV l (gO l i k).next, goL l (gO l i k).next)], goX l (gO l i k).next, 0⟩ := by
  simp [gO, stepO, h0, h1]
theorem gO_e1 {l : List UInt8} {i : Int} {k n : Nat} (hk : k < n) (h0 : (gO l i k).e = 0) (h1 : goE l (gO l i k).next ≠ 0) : (gO l i n).e = goE l (gO l i k).next := by
  have e : gO l i (k + 1) = ⟨(gO l i k).xs, (gO l i k).next, goE l (gO l i k).next⟩ := by simp [gO, stepO, h0, h1]
  rw [gO_stop (k := k + 1) (by rw [e]; exact h1) n hk, e]
theorem gI_b {l : List UInt8} {i : Int} (hi : 0 ≤ i ∧ i ≤ l.length) : ∀ (k : Nat), (gI l i k).e = 0 → i ≤ (gI l i k).next ∧ (gI l i k).next ≤ l.length
  | 0, _ => ⟨Int.le_refl _, hi.2⟩
  | k + 1, h => by
    by_cases h0 : (gI l i k).e = 0
    · by_cases h1 : ptE l (gI l i k).next = 0
      · by_cases h2 : rowE l ((gI l i k).next + 38) 3000 = 0
        · rw [gI_ok h0 h1 h2]
          have := gI_b hi k h0
          have := rowE_b h2
          simp only; omega
        · exact absurd (by rw [← gI_e2 (Nat.lt_succ_self k) h0 h1 h2]; exact h) h2
      · exact absurd (by rw [← gI_e1 (Nat.lt_succ_self k) h0 h1]; exact h) h1
    · exact absurd (by rw [gI_stop h0 (k + 1) (Nat.le_succ k)] at h; exact h) h0
theorem gO_b {l : List UInt8} {i : Int} (hi : 0 ≤ i ∧ i ≤ l.length) : ∀ (k : Nat), (gO l i k).e = 0 → i ≤ (gO l i k).next ∧ (gO l i k).next ≤ l.length
  | 0, _ => ⟨Int.le_refl _, hi.2⟩
  | k + 1, h => by
    by_cases h0 : (gO l i k).e = 0
    · by_cases h1 : goE l (gO l i k).next = 0
      · rw [gO_ok h0 h1]
        have := gO_b hi k h0
        have := (go_ok l (gO l i k).next).2.2 h1
        simp only; omega
      · exact absurd (by rw [← gO_e1 (Nat.lt_succ_self k) h0 h1]; exact h) h1
    · exact absurd (by rw [gO_stop h0 (k + 1) (Nat.le_succ k)] at h; exact h) h0
theorem InsN_snoc {gs : List InG} {g : InG} (h : InsN gs) (hg : 0 ≤ g.n ∧ g.n ≤ 65535 ∧ 0 ≤ g.ht ∧ g.ht ≤ 4294967295) : InsN (gs ++ [g]) := fun x hx => by
  rcases List.mem_append.1 hx with hx | hx
  · exact h x hx
  · rw [List.mem_singleton.1 hx]; exact hg
theorem OutsN_snoc {gs : List OutG} {g : OutG} (h : OutsN gs) (hg : 0 ≤ g.value ∧ g.value ≤ 18446744073709551615) : OutsN (gs ++ [g]) := fun x hx => by
  rcases List.mem_append.1 hx with hx | hx
  · exact h x hx
  · rw [List.mem_singleton.1 hx]; exact hg
def trE (l : List UInt8) : Int := if tgE l 0 ≠ 0 then tgE l 0 else if tgX l 0 < l.length then 5 else 0
def trI (l : List UInt8) : List InK := if trE l = 0 then tgI l 0 else []
def trO (l : List UInt8) : List OutK := if trE l = 0 then tgO l 0 else []
def trA (l : List UInt8) : Int := if trE l = 0 then tgA l 0 else 0
theorem tr_no {l : List UInt8} {e : Int} (h : e ≠ 0) (he : trE l = e) : ([] : List InG).map inK = trI l ∧ ([] : List OutG).map outK = trO l ∧ 0 = trA l ∧ e = trE l := by
  have h' : ¬ trE l = 0 := by omega
  refine ⟨?_, ?_, ?_, he.symm⟩
  · unfold trI; rw [if_neg h']; rfl
  · unfold trO; rw [if_neg h']; rfl
  · unfold trA; rw [if_neg h']
/-- a transaction that is handed in -/
structure TxG where
  si : Sv
  ins : List InG
  so : Sv
  outs : List OutG
  after : Int
@[reducible] def TxG.sg (t : TxG) : List Cs := [.one (.slice t.si.A t.ins.length t.si.c), .one (.slice t.so.A t.outs.length t.so.c), .one (.int .u32 t.after)]
structure TxG.P (w : World) (t : TxG) : Prop where
  i : Slr w RIn (.slice t.si.A t.ins.length t.si.c) t.ins
  ip : InsP w t.ins
  o : Slr w ROut (.slice t.so.A t.outs.length t.so.c) t.outs
  op : OutsP w t.outs
  a : 0 ≤ t.after ∧ t.after ≤ 4294967295
def TxG.wt (t : TxG) : Nat := (t.ins.map fun g => g.ul.length + 1).sum + (t.outs.map fun g => g.lock.length + 1).sum
end Go.Proofs.YtalainpmlonahaaDoor
