/-
  Blocks: plain laws.
-/
import Derived.Test.YtalainpmlonahaaDoorBa
import Derived.Test.YtalainpmlonahaaDoorVbackP
import Derived.Test.YtalainpmlonahaaDoorBp
set_option linter.all false
set_option maxRecDepth 100000
namespace Go.Proofs.YtalainpmlonahaaDoor
open Go.RowKit

@[reducible] def HdN (t b n : Int) : Prop := (0 ≤ t ∧ t ≤ 4294967295) ∧ (0 ≤ b ∧ b ≤ 4294967295) ∧ (0 ≤ n ∧ n ≤ 4294967295)
def headB (prev root : List UInt8) (t b n : Int) : List UInt8 := prev ++ root ++ putL t 4 ++ putL b 4 ++ putL n 4
theorem headB_len {prev root : List UInt8} {t b n : Int} (h1 : prev.length = 32) (h2 : root.length = 32) (h : HdN t b n) : (headB prev root t b n).length = 76 := by
  have a1 := putL_len (n := t) (k := 4) ⟨h.1.1, by omega⟩
  have a2 := putL_len (n := b) (k := 4) ⟨h.2.1.1, by omega⟩
  have a3 := putL_len (n := n) (k := 4) ⟨h.2.2.1, by omega⟩
  simp only [headB, List.length_append]; omega
structure Hd where
  prev : Hsh
  root : Hsh
  tm : Int
  bits : Int
  nonce : Int
  deriving DecidableEq
def zHd : Hd := ⟨zH, zH, 0, 0, 0⟩
def Hd.N (h : Hd) : Prop := HdN h.tm h.bits h.nonce
def Hd.b (h : Hd) : List UInt8 := headB h.prev.l h.root.l h.tm h.bits h.nonce
def hdG (l : List UInt8) : Hd := ⟨toH (l.take 32), toH ((l.drop 32).take 32), getN l 64 4, getN l 68 4, getN l 72 4⟩
def hdE (l : List UInt8) (i : Int) : Int := partE l i 76
def hdV (l : List UInt8) (i : Int) : Hd := if hdE l i = 0 then hdG (partL l i 76) else zHd
def hdX (l : List UInt8) (i : Int) : Int := if hdE l i = 0 then i + 76 else 0
theorem hdV_n (l : List UInt8) (i : Int) : HdN (hdV l i).tm (hdV l i).bits (hdV l i).nonce := by
  unfold hdV
  split
  · have h1 := getN_4 (partL l i 76) 64
    have h2 := getN_4 (partL l i 76) 68
    have h3 := getN_4 (partL l i 76) 72
    have g1 := getN_b (partL l i 76) 64 4
    have g2 := getN_b (partL l i 76) 68 4
    have g3 := getN_b (partL l i 76) 72 4
    exact ⟨⟨g1.1, h1⟩, ⟨g2.1, h2⟩, ⟨g3.1, h3⟩⟩
  · simp [zHd]
theorem hdE_ok {l : List UInt8} {i : Int} (h : hdE l i = 0) : hdX l i = i + 76 ∧ 0 ≤ i ∧ i + 76 ≤ l.length := by
  have h1 := partE_ok (show partE l i 76 = 0 from h)
  unfold hdX; rw [if_pos h]; omega
/-! a block's bytes -/
def bkB (hd : List UInt8) (ts : List TxG) : List UInt8 := hd ++ countS ts.length ++ ts.flatMap TxG.b
def BkMay (hd : List UInt8) (ts : List TxG) : Prop := ListMay ts ∧ (bkB hd ts).length ≤ 20000
instance {hd : List UInt8} {ts : List TxG} : Decidable (BkMay hd ts) := inferInstanceAs (Decidable (_ ∧ _))
def bkE (hd : List UInt8) (ts : List TxG) : Int := if BkMay hd ts then 0 else 2
def bkL (hd : List UInt8) (ts : List TxG) : List UInt8 := if BkMay hd ts then bkB hd ts else []
theorem txs_len {ts : List TxG} (k : Nat) : ((ts.take k).flatMap TxG.b).length ≤ k * 8000 := by
  have h := flatMap_len (f := TxG.b) (m := 8000) (l := ts.take k) (fun x _ => txL_le _ _ _)
  have : (ts.take k).length ≤ k := by simp; omega
  have := Nat.mul_le_mul_right 8000 this
  omega
/-! reading -/
abbrev TxK := List InK × List OutK × Int
def txK (g : TxG) : TxK := (g.ins.map inK, g.outs.map outK, g.after)
def stepT (l : List UInt8) (s : RdS TxK) : RdS TxK :=
  if s.e ≠ 0 then s else if tgE l s.next ≠ 0 then ⟨s.xs, s.next, tgE l s.next⟩ else ⟨s.xs ++ [(tgI l s.next, tgO l s.next, tgA l s.next)], tgX l s.next, 0⟩
def gT (l : List UInt8) (i : Int) : Nat → RdS TxK
  | 0 => ⟨[], i, 0⟩
  | k + 1 => stepT l (gT l i k)
theorem gT_stop {l : List UInt8} {i : Int} {k : Nat} (h : (gT l i k).e ≠ 0) : ∀ m, k ≤ m → gT l i m = gT l i k
  | 0, hm => by obtain rfl : k = 0 := by omega
                rfl
  | m + 1, hm => by
    rcases Nat.lt_or_ge m k with h1 | h1
    · obtain rfl : k = m + 1 := by omega
      rfl
    · have ih := gT_stop h m h1
      rw [gT, ih, stepT, if_pos h]
theorem gT_ok {l : List UInt8} {i : Int} {k : Nat} (h0 : (gT l i k).e = 0) (h1 : tgE l (gT l i k).next = 0) :
    gT l i (k + 1) = ⟨(gT l i k).xs ++ [(tgI l (gT l i k).next, tgO l (gT l i k).next, tgA l (gT l i k).next)], tgX l (gT l i k).next, 0⟩ := by
  simp [gT, stepT, h0, h1]
theorem gT_e1 {l : List UInt8} {i : Int} {k n : Nat} (hk : k < n) (h0 : (gT l i k).e = 0) (h1 : tgE l (gT l i k).next ≠ 0) : (gT l i n).e = tgE l (gT l i k).next := by
  have e : gT l i (k + 1) = ⟨(gT l i k).xs, (gT l i k).next, tgE l (gT l i k).next⟩ := by simp [gT, stepT, h0, h1]
  rw [gT_stop (k := k + 1) (by rw [e]; exact h1) n hk, e]
theorem gT_b {l : List UInt8} {i : Int} (hi : 0 ≤ i ∧ i ≤ l.length) : ∀ (k : Nat), (gT l i k).e = 0 → i ≤ (gT l i k).next ∧ (gT l i k).next ≤ l.length
  | 0, _ => ⟨Int.le_refl _, hi.2⟩
  | k + 1, h => by
    by_cases h0 : (gT l i k).e = 0
    · by_cases h1 : tgE l (gT l i k).next = 0
      · rw [gT_ok h0 h1]
        have := gT_b hi k h0
        have := (tx_forth h1).2.1
        simp only; omega
      · exact absurd (by rw [← gT_e1 (Nat.lt_succ_self k) h0 h1]; exact h) h1
    · exact absurd (by rw [gT_stop h0 (k + 1) (Nat.le_succ k)] at h; exact h) h0
def bT (l : List UInt8) (i : Int) : RdS TxK := gT l (countX l (i + 76)) (countN l (i + 76)).toNat
def bgE (l : List UInt8) (i : Int) : Int :=
  if hdE l i ≠ 0 then hdE l i else if countE l (i + 76) ≠ 0 then countE l (i + 76) else if countN l (i + 76) = 0 then 5 else if 16 < countN l (i + 76) then 3 else
  if (bT l i).e ≠ 0 then (bT l i).e else if 20000 < (bT l i).next - i then 3 else 0
def bgH (l : List UInt8) (i : Int) : Hd := if bgE l i = 0 then hdV l i else zHd
def bgT (l : List UInt8) (i : Int) : List TxK := if bgE l i = 0 then (bT l i).xs else []
def bgX (l : List UInt8) (i : Int) : Int := if bgE l i = 0 then (bT l i).next else 0
theorem bg_no {l : List UInt8} {i e : Int} (h : e ≠ 0) (he : bgE l i = e) : ([] : List TxG).map txK = bgT l i ∧ zHd = bgH l i ∧ 0 = bgX l i ∧ e = bgE l i := by
  have h' : ¬ bgE l i = 0 := by omega
  refine ⟨?_, ?_, ?_, he.symm⟩
  · unfold bgT; rw [if_neg h']; rfl
  · unfold bgH; rw [if_neg h']
  · unfold bgX; rw [if_neg h']
def brE (l : List UInt8) : Int := if bgE l 0 ≠ 0 then bgE l 0 else if bgX l 0 < l.length then 5 else 0
def brH (l : List UInt8) : Hd := if brE l = 0 then bgH l 0 else zHd
def brT (l : List UInt8) : List TxK := if brE l = 0 then bgT l 0 else []
theorem br_no {l : List UInt8} {e : Int} (h : e ≠ 0) (he : brE l = e) : ([] : List TxG).map txK = brT l ∧ zHd = brH l ∧ e = brE l := by
  have h' : ¬ brE l = 0 := by omega
  refine ⟨?_, ?_, he.symm⟩
  · unfold brT; rw [if_neg h']; rfl
  · unfold brH; rw [if_neg h']
/-! ids, the root -/
def idsE (ts : List TxG) : Int := if ListMay ts then 0 else 2
def idsL (ts : List TxG) : List Hsh := if ListMay ts then ts.map TxG.id else []
def rootT (ts : List TxG) : Hsh × Bool := rootF (idsL ts)
def sealedB (root : List UInt8) (ts : List TxG) : Bool := decide (idsE ts = 0 ∧ (rootT ts).2 = true ∧ (rootT ts).1.l = root)
def sealE (ts : List TxG) : Int := if idsE ts ≠ 0 then idsE ts else if (rootT ts).2 then 0 else 5
end Go.Proofs.YtalainpmlonahaaDoor
